/- What the document says of an item put between. What the document says of an item put between, and of one taken out. -/
import Derived.Test.YtjjbhnkplbjfeaaDoorCSpL
import Derived.Test.YtjjbhnkplbjfeaaDoorCSpJ
import Derived.Test.YtjjbhnkplbjfeaaDoorCFnRef
/- What the document says of an item put between. -/
set_option linter.unusedVariables false
set_option linter.unusedSimpArgs false
namespace Go.Proofs.YtjjbhnkplbjfeaaDoor
open Go.RowKit
attribute [local go_sem] lt_succ_of

set_option maxRecDepth 100000 in
set_option maxHeartbeats 4000000 in
theorem refsplice_calls (l m : List V) (vl vm : Value) (i : Int) (w : World) (S : Nat → Prop) (h : IsS w S l vl) (hm : IsS w S m vm) (hm1 : m.length = 1) (h65 : l.length ≤ 65536) :
    Calls Tryd.prog 91 #[vl, .int .i64 i, .int .i64 i, vm] w fun e w' => (¬ (0 ≤ i ∧ i ≤ (l.length : Int)) ∧ e = .returned (.tuple #[.slice none 0 0, .int .i64 5]) ∧ Below w.heap.size w w') ∨ ((0 ≤ i ∧ i ≤ (l.length : Int)) ∧ ((l.length = 65536 ∧ e = .returned (.tuple #[.slice none 0 0, .int .i64 2]) ∧ Below w.heap.size w w') ∨ (l.length ≠ 65536 ∧ ∃ v, e = .returned (.tuple #[v, .int .i64 0]) ∧ IsS w' (Old w S) (l.take i.toNat ++ m ++ l.drop i.toNat) v ∧ Below w.heap.size w w'))) := by
  have HE := refend_calls l vl i w S h
  obtain ⟨A, c, rfl, hc, hl, hA⟩ := h.keep (S' := fun b => S b ∧ b < w.heap.size) (w' := w) (fun b hb hs => ⟨⟨hs, hb⟩, rfl⟩)
  obtain ⟨Am, cm, rfl, hcm, hlm, hAm⟩ := hm.keep (S' := fun b => S b ∧ b < w.heap.size) (w' := w) (fun b hb hs => ⟨⟨hs, hb⟩, rfl⟩)
  have HA := Lib.hid hA
  have HAm := Lib.hid hAm
  rw [hm1] at hcm hlm ⊢
  have HML := Lib.hid hm1
  clear hA hAm h hm
  by_cases h1 : 0 ≤ i ∧ i ≤ (l.length : Int)
  · rw [decide_eq_true h1] at HE
    have HE := Lib.hid HE
    obtain ⟨j, rfl⟩ : ∃ j : Nat, i = (j : Int) := ⟨i.toNat, by omega⟩
    have HIN := Lib.hid h1
    have i0 : IntKind.i64.wrap ((j : Int) - (j : Int)) = 0 := by rw [Int.sub_self]; rfl
    have i1 : IntKind.i64.wrap ((l.length : Int) - 0) = (l.length : Int) := by rw [Int.sub_zero]; exact IntWalk.i64_in _ (by omega)
    have i2 : IntKind.i64.wrap (65536 - (l.length : Int)) = 65536 - (l.length : Int) := IntWalk.i64_in _ (by omega)
    have d0 : decide ((j : Int) < (j : Int)) = false := by simp
    by_cases hf : l.length = 65536
    · have d1 : decide (65536 - (l.length : Int) < 1) = true := decide_eq_true (by omega)
      have HF := Lib.hid hf
      clear h1 hf
      go_enter Tryd.func91, Tryd.ntmps91
      go_wp2_with (go_at_call 90; refine HE.out.mono ?_; rintro e w3 ⟨rfl, rfl⟩)

      go_ret2
      exact .inr ⟨HIN.out, .inl ⟨HF.out, rfl, Below.refl _ _⟩⟩
    · have d1 : decide (65536 - (l.length : Int) < 1) = false := decide_eq_false (by omega)
      have hj : j ≤ l.length := by omega
      have hj2 : (j : Int) ≤ (l.length : Int) := by omega
      have hjc : (j : Int) ≤ (c : Int) := by omega
      have hjc2 : j ≤ c := by omega
      have hlc : (l.length : Int) ≤ (c : Int) := by omega
      have hlt : (l.take j).length = j := by rw [List.length_take]; omega
      have hld : (l.drop j).length = l.length - j := by rw [List.length_drop]
      have HF := Lib.hid hf
      have HM1 : Hid (LA w (fun b => S b ∧ b < w.heap.size) (l.take j) A) := Lib.hid (HA.out.take j)
      clear h1 hf
      by_cases hcj : c = j
      · subst hcj
        have HM2 : Hid (LA w (fun b => S b ∧ b < w.heap.size) (l.drop c) A) := Lib.hid (.inl (List.length_eq_zero_iff.1 (by rw [hld]; omega)))
        go_enter Tryd.func91, Tryd.ntmps91
        go_wp2_with (first
          | (go_at_call 90; refine HE.out.mono ?_; rintro e w3 ⟨rfl, rfl⟩)
          | (at_builtin; refine append_manyN w.heap.size (fun b => S b ∧ b < w.heap.size) rfl _ _ rfl _ [] _ _ _ _ rfl rfl hlt (OwnL.empty (heap_alloc_new _ _) (Nat.le_refl _)) (HM1.out.beside (alloc_of (Below.refl _ _) _) (empty_new (Nat.le_refl _))) (by simp) (by rw [hlt]; simp only [List.length_nil]; omega) ?_; intro v1 w1 hO1 hg1; have hb1 := Below.grown (alloc_of (Below.refl w.heap.size w) _) hg1 (by simp) (empty_new (Nat.le_refl _)); have hown1 := hO1.own_lt; have hO1' := hO1; rw [List.nil_append] at hO1'; have HO1 := Lib.hid hO1'; clear hO1 hO1' hg1 HM1)
          | (at_builtin; refine append_manyN w.heap.size (fun b => S b ∧ b < w.heap.size) rfl _ _ rfl v1 _ m _ _ _ rfl rfl HML.out HO1.out (HAm.out.beside hb1 (fun k e => (hown1 k e).1)) hb1.size (by rw [HML.out, hlt]; omega) ?_; intro v2 w2 hO2 hg2; have hb2 := Below.grown hb1 hg2 hb1.size (fun k e => (hown1 k e).1); have hown2 := hO2.own_lt; have HO2 := Lib.hid hO2; clear hO2 hg2 HAm HO1)
          | (at_builtin; refine append_manyN w.heap.size (fun b => S b ∧ b < w.heap.size) rfl _ _ rfl v2 _ _ _ _ _ rfl rfl (by first | exact hld | (rw [hld]; omega)) HO2.out (HM2.out.beside hb2 (fun k e => (hown2 k e).1)) hb2.size (by rw [hld, List.length_append, hlt, HML.out]; omega) ?_; intro v3 w3 hO3 hg3; have hb3 := Below.grown hb2 hg3 hb2.size (fun k e => (hown2 k e).1); have HO3 := Lib.hid hO3; clear hO3 hg3 HM2 HO2))
        go_ret2
        exact .inr ⟨HIN.out, .inr ⟨HF.out, _, rfl, HO3.out.is (S' := Old w S) (fun b h => .inl h) (fun b h => .inr h) (by rw [List.length_append, List.length_append, hld, hlt, HML.out]; omega), hb3⟩⟩
      · have HM2 : Hid (LA w (fun b => S b ∧ b < w.heap.size) (l.drop j) (A.map (fun x => x.add (j * 4)))) := Lib.hid (HA.out.drop_map j)
        go_enter Tryd.func91, Tryd.ntmps91
        go_wp2_with (first
          | (go_at_call 90; refine HE.out.mono ?_; rintro e w3 ⟨rfl, rfl⟩)
          | (at_builtin; refine append_manyN w.heap.size (fun b => S b ∧ b < w.heap.size) rfl _ _ rfl _ [] _ _ _ _ rfl rfl hlt (OwnL.empty (heap_alloc_new _ _) (Nat.le_refl _)) (HM1.out.beside (alloc_of (Below.refl _ _) _) (empty_new (Nat.le_refl _))) (by simp) (by rw [hlt]; simp only [List.length_nil]; omega) ?_; intro v1 w1 hO1 hg1; have hb1 := Below.grown (alloc_of (Below.refl w.heap.size w) _) hg1 (by simp) (empty_new (Nat.le_refl _)); have hown1 := hO1.own_lt; have hO1' := hO1; rw [List.nil_append] at hO1'; have HO1 := Lib.hid hO1'; clear hO1 hO1' hg1 HM1)
          | (at_builtin; refine append_manyN w.heap.size (fun b => S b ∧ b < w.heap.size) rfl _ _ rfl v1 _ m _ _ _ rfl rfl HML.out HO1.out (HAm.out.beside hb1 (fun k e => (hown1 k e).1)) hb1.size (by rw [HML.out, hlt]; omega) ?_; intro v2 w2 hO2 hg2; have hb2 := Below.grown hb1 hg2 hb1.size (fun k e => (hown1 k e).1); have hown2 := hO2.own_lt; have HO2 := Lib.hid hO2; clear hO2 hg2 HAm HO1)
          | (at_builtin; refine append_manyN w.heap.size (fun b => S b ∧ b < w.heap.size) rfl _ _ rfl v2 _ _ _ _ _ rfl rfl (by first | exact hld | (rw [hld]; omega)) HO2.out (HM2.out.beside hb2 (fun k e => (hown2 k e).1)) hb2.size (by rw [hld, List.length_append, hlt, HML.out]; omega) ?_; intro v3 w3 hO3 hg3; have hb3 := Below.grown hb2 hg3 hb2.size (fun k e => (hown2 k e).1); have HO3 := Lib.hid hO3; clear hO3 hg3 HM2 HO2))
        go_ret2
        exact .inr ⟨HIN.out, .inr ⟨HF.out, _, rfl, HO3.out.is (S' := Old w S) (fun b h => .inl h) (fun b h => .inr h) (by rw [List.length_append, List.length_append, hld, hlt, HML.out]; omega), hb3⟩⟩
  · rw [decide_eq_false h1] at HE
    have HE := Lib.hid HE
    have HN := Lib.hid h1
    clear h1
    go_enter Tryd.func91, Tryd.ntmps91
    go_wp2_with (go_at_call 90; refine HE.out.mono ?_; rintro e w3 ⟨rfl, rfl⟩)
    go_ret2
    exact .inl ⟨HN.out, rfl, Below.refl _ _⟩
end Go.Proofs.YtjjbhnkplbjfeaaDoor

/- What the document says of an item put between, and of one taken out. -/
set_option linter.unusedVariables false
set_option linter.unusedSimpArgs false
namespace Go.Proofs.YtjjbhnkplbjfeaaDoor
open Go.RowKit
attribute [local go_sem] lt_succ_of

set_option maxRecDepth 100000 in
set_option maxHeartbeats 4000000 in
theorem refinsert_calls (l : List V) (vl : Value) (i : Int) (x : V) (vx : Value) (w : World) (S : Nat → Prop) (h : IsS w S l vl) (hx : IsV w S x vx) (h65 : l.length ≤ 65536) :
    Calls Tryd.prog 59 #[vl, .int .i64 i, vx] w fun e w' => (insE l i x ≠ 0 ∧ e = .returned (.tuple #[.slice none 0 0, .int .i64 (insE l i x)]) ∧ Below w.heap.size w w') ∨ (insE l i x = 0 ∧ ∃ v, e = .returned (.tuple #[v, .int .i64 0]) ∧ IsS w' (fun _ => True) (insL l i.toNat x) v ∧ Below w.heap.size w w') := by
  obtain ⟨A, c, rfl, hc, hl, hA⟩ := h
  obtain ⟨hbx, Ax, cx, rfl, hcx, hAx⟩ := hx.eq
  obtain ⟨w1, hw1, hB1, hsz, hb0⟩ := box0 w 33 (.int .i64 x.kind) (.int .i64 x.num) (.string x.text) (.slice Ax x.items.length cx)
  obtain ⟨e0, e1, e2, e3⟩ := block4 hb0
  have HR := Lib.hid (rightref_calls x _ w1 S (hx.below hB1))
  have HL := Lib.hid (IsS.below (w' := w1) hB1 ⟨A, c, rfl, hc, hl, hA⟩)
  have HX := Lib.hid ((VC.mk hbx hcx hAx).keep (Keeps.below hB1))
  have HB0 := Lib.hid hb0
  clear hA hAx hx hb0
  by_cases hr : rightB x = true
  · rw [hr] at HR
    have HRR := Lib.hid hr
    have hE : insE l i x = if 0 ≤ i ∧ i ≤ (l.length : Int) then (if l.length = 65536 then 2 else 0) else 5 := by unfold insE; rw [if_pos hr]
    clear hr
    go_enter Tryd.func59, Tryd.ntmps59
    go_wp2_with (first
      | (go_at_call 66; refine HR.out.mono ?_; rintro e w2 ⟨rfl, hb2⟩; have hk2 := blockB hb2 HB0.out; obtain ⟨g0, g1, g2, g3⟩ := block4 hk2))
    have hbx2 := alloc_of (Below.refl w2.heap.size w2) (.cells #[.int .i64 x.kind, .int .i64 x.num, .string x.text, .slice Ax x.items.length cx] 33)
    have hb12 := chain_then hb2 hbx2
    refine (refsplice_calls l [x] _ _ i _ (fun _ => True) ((HL.out.below hb12).keep (Keeps.weak fun _ _ => trivial)) (IsS.single (heap_alloc_new w2 _) trivial (HX.out.keep fun b h1 h2 => ⟨trivial, hb12.block b h1⟩)) rfl h65).mono ?_
    rintro e w3 (⟨hn, rfl, hb3⟩ | ⟨hin, ⟨hf, rfl, hb3⟩ | ⟨hf, v3, rfl, hv3, hb3⟩⟩)
    · have HQ := Lib.hid (hE.trans (if_neg hn))
      have hb4 := chain_then hB1 (chain_then hb12 hb3)
      clear hE hn
      go_wp2_with fail
      go_ret2
      exact .inl ⟨by rw [HQ.out]; decide, by simp [HQ.out], hb4⟩
    · have HQ := Lib.hid ((hE.trans (if_pos hin)).trans (if_pos hf))
      have hb4 := chain_then hB1 (chain_then hb12 hb3)
      clear hE hin hf
      go_wp2_with fail
      go_ret2
      exact .inl ⟨by rw [HQ.out]; decide, by simp [HQ.out], hb4⟩
    · have HQ := Lib.hid ((hE.trans (if_pos hin)).trans (if_neg hf))
      have hb4 := chain_then hB1 (chain_then hb12 hb3)
      have HV3 := Lib.hid (hv3.keep (S' := fun _ => True) (Keeps.weak fun _ _ => trivial))
      clear hE hin hf hv3
      go_wp2_with fail
      go_ret2
      exact .inr ⟨HQ.out, _, rfl, HV3.out, hb4⟩
  · have hr2 : rightB x = false := by simpa using hr
    rw [hr2] at HR
    have hE : insE l i x = 3 := by unfold insE; rw [if_neg hr]
    rw [hE]
    clear hr hr2
    go_enter Tryd.func59, Tryd.ntmps59
    go_wp2_with (first | (go_at_call 66; refine HR.out.mono ?_; rintro e w2 ⟨rfl, hb2⟩))
    go_ret2
    exact .inl ⟨by decide, rfl, chain_then hB1 hb2⟩
set_option maxRecDepth 100000 in
set_option maxHeartbeats 4000000 in
theorem refremove_calls (l : List V) (vl : Value) (i : Int) (w : World) (S : Nat → Prop) (h : IsS w S l vl) (h65 : l.length ≤ 65536) :
    Calls Tryd.prog 61 #[vl, .int .i64 i] w fun e w' => (¬ (0 ≤ i ∧ i < (l.length : Int)) ∧ ∃ v, e = .returned (.tuple #[.slice none 0 0, v, .int .i64 5]) ∧ IsV w' (fun _ => True) V.zero v ∧ Below w.heap.size w w') ∨ ((0 ≤ i ∧ i < (l.length : Int)) ∧ ∃ v u, e = .returned (.tuple #[v, u, .int .i64 0]) ∧ IsS w' (fun _ => True) (remL l i.toNat) v ∧ IsV w' (fun _ => True) (itemAt l i.toNat) u ∧ Below w.heap.size w w') := by
  obtain ⟨A, c, rfl, hc, hl, hA⟩ := h.keep (S' := fun b => S b ∧ b < w.heap.size) (w' := w) (fun b hb hs => ⟨⟨hs, hb⟩, rfl⟩)
  obtain ⟨w1, hw1, hB1, hsz, hb0⟩ := box0 w 33 (.int .i64 0) (.int .i64 0) (.string ⟨#[]⟩) (.slice none 0 0)
  obtain ⟨r0, r1, r2, r3⟩ := block4 hb0
  have fzr := free4 hb0
  have HB0 := Lib.hid hb0
  have HA := Lib.hid hA
  by_cases hneg : i < 0
  · have d1 : decide (i < 0) = true := decide_eq_true hneg
    have HN := Lib.hid (show ¬ (0 ≤ i ∧ i < (l.length : Int)) by omega)
    obtain ⟨w5, hw5, hk5, hs5, hot5, hB5⟩ := store_box hb0 (.int .i64 0) (.int .i64 0) (.string ⟨#[]⟩) (.slice none 0 0)
    have hb5 := hB1.trans (hB5 _ (Nat.le_refl _))
    obtain ⟨g0, g1, g2, g3⟩ := block4 hk5
    clear hneg hA h hb0
    go_enter Tryd.func61, Tryd.ntmps61
    go_wp2_with fail
    refine bodyPost_ret (v := .tuple #[.slice none 0 0, .agg #[.int .i64 0, .int .i64 0, .string ⟨#[]⟩, .slice none 0 0], .int .i64 5]) (by simp [results, Tryd.results61, go_sem, g0, g1, g2, g3]) rfl (.inl ⟨HN.out, _, rfl, ?_, hb5⟩)
    exact IsV.mk (x := V.zero) (A := none) (cap := 0) zero_bd (by simp [V.zero, V.items]) (.inl rfl)
  · obtain ⟨j, rfl⟩ : ∃ j : Nat, i = (j : Int) := ⟨i.toNat, by omega⟩
    have d1 : decide ((j : Int) < 0) = false := by simp
    by_cases hjl : j < l.length
    · have d2 : decide ((l.length : Int) ≤ (j : Int)) = false := decide_eq_false (by omega)
      have hj3 : ¬ (l.length : Int) ≤ (j : Int) := by omega
      have HIN := Lib.hid (show 0 ≤ (j : Int) ∧ (j : Int) < (l.length : Int) by omega)
      have hj2 : (j : Int) < (l.length : Int) := by omega
      have hj4 : (j : Int) ≤ (l.length : Int) := by omega
      have hjc : (j : Int) ≤ (c : Int) := by omega
      have hjc2 : j ≤ c := by omega
      have hlc : (l.length : Int) ≤ (c : Int) := by omega
      obtain ⟨k, hk⟩ : ∃ k, j + 1 = k := ⟨_, rfl⟩
      have HK := Lib.hid hk
      have i1 : IntKind.i64.wrap ((j : Int) + 1) = (k : Int) := by rw [← hk]; exact IntWalk.i64_in _ (by omega)
      have i3 : IntKind.i64.wrap (k : Int) = (k : Int) := IntWalk.i64_in _ (by omega)
      have k1 : (k : Int) ≤ (l.length : Int) := by omega
      have k2 : (k : Int) ≤ (c : Int) := by omega
      have k3 : k ≤ l.length := by omega
      have k4 : k ≤ c := by omega
      have hlt : (l.take j).length = j := by rw [List.length_take]; omega
      have hld : (l.drop k).length = l.length - k := by rw [List.length_drop]
      have HM1 : Hid (LA w (fun b => S b ∧ b < w.heap.size) (l.take j) A) := Lib.hid (HA.out.take j)
      clear hk hneg hA h
      obtain ⟨ad, A1, cap1, rfl, hla', hbd, f0, f1, f2, f3, hcap1, hLA⟩ := HA.out.at j hjl
      have HX := Lib.hid (IsV.mk hbd hcap1 hLA)
      clear hbd hLA hcap1 hla'
      by_cases hck : c = k
      · subst hck
        have HM2 : Hid (LA w (fun b => S b ∧ b < w.heap.size) (l.drop c) (some ad)) := Lib.hid (.inl (List.length_eq_zero_iff.1 (by rw [hld]; omega)))
        go_enter Tryd.func61, Tryd.ntmps61
        go_wp2_with (at_builtin; refine append_manyN w1.heap.size (fun b => S b ∧ b < w.heap.size) rfl _ _ rfl _ [] _ _ _ _ rfl rfl hlt (OwnL.empty (heap_alloc_new _ _) (by omega)) (HM1.out.beside (alloc_of hB1 _) (empty_new (by omega))) (by first | (simp; done) | (simp; omega)) (by rw [hlt]; simp only [List.length_nil]; omega) ?_; intro v1 w2 hO1 hg1; have hb1 := Below.grown (alloc_of (Below.refl w1.heap.size w1) _) hg1 (by first | (simp; done) | (simp; omega)) (empty_new (by omega)); have hown1 := hO1.own_lt; have hO1' := hO1; rw [List.nil_append] at hO1'; have HO1 := Lib.hid hO1'; clear hO1 hO1' HM1)
        have hb01 := chain_then hB1 hb1
        have q0 := cellB hb01 f0
        have q1 := cellB hb01 f1
        have q2 := cellB hb01 f2
        have q3 := cellB hb01 f3
        have hk2 := blockB hb1 HB0.out
        obtain ⟨x0, x1, x2, x3⟩ := block4 hk2
        have fz2 := free4 hk2
        have hne : ad.block ≠ w.heap.size := fun e => by have := World.block_lt_of_cell? w _ f0; rw [addr_add_block] at this; omega
        clear hk2 r0 r1 r2 r3 fzr hb0
        go_region_law (refine appendL_step w1.heap.size (fun b => S b ∧ b < w.heap.size) rfl (.tmp 22) (.tmp 26) rfl v1 (l.take j) (l.drop c) (some ad) 0 0 (by simp [Act.eval, Act.put]) (by simp [Act.eval, Act.put]) (by rw [hld]; omega) (HO1.out.keep Keeps.drew (fun _ _ => rfl)) (HM2.out.beside (drew_of hb01) (fun k e => Nat.le_trans hB1.size (hown1 k e).1)) hb1.size (by rw [hld, hlt]; omega) ?_; intro v2 w3 hO2 hg2 hat2; have hb2 := Below.grown (drew_of hb1) hg2 hb1.size (fun k e => (hown1 k e).1); have HO2 := Lib.hid hO2; have hb02 := chain_then hB1 hb2; have y0 := cellB hb02 f0; have y1 := cellB hb02 f1; have y2 := cellB hb02 f2; have y3 := cellB hb02 f3; have hk3 := blockB hb2 HB0.out; have HK3 := Lib.hid hk3; obtain ⟨z0, z1, z2, z3⟩ := block4 hk3; have fz3 := free4 hk3; clear hO2 hk3 HM2 HO1)
        all_goals
          obtain ⟨w5, hw5, hk5, hs5, hot5, hB5⟩ := store_box (w := w3) HK3.out (.int .i64 (itemAt l j).kind) (.int .i64 (itemAt l j).num) (.string (itemAt l j).text) (.slice A1 (itemAt l j).items.length cap1)
          rw [hw5]
          obtain ⟨k0, k1, k2, k3⟩ := block4 hk5
          have hb5 := hb02.trans (hB5 _ (Nat.le_refl _))
          go_wp2_with fail
          refine bodyPost_ret (v := .tuple #[v2, .agg #[.int .i64 (itemAt l j).kind, .int .i64 (itemAt l j).num, .string (itemAt l j).text, .slice A1 (itemAt l j).items.length cap1], .int .i64 0]) (by simp [results, Tryd.results61, go_sem, k0, k1, k2, k3]) rfl (.inr ⟨HIN.out, _, _, rfl, ?_, ?_, hb5⟩)
          · have h5 : OwnL w5 w1.heap.size (fun b => S b ∧ b < w.heap.size) (l.take j ++ l.drop c) v2 := HO2.out.keep (fun b hb h => ⟨h, hot5 b (by omega)⟩) (fun k e => hot5 k (by have := (HO2.out.own_lt k e).1; omega))
            have h6 := h5.is (S' := fun _ => True) (fun b h => trivial) (fun b h => trivial) (by rw [List.length_append, hld, hlt]; omega)
            rw [show remL l (j : Int).toNat = l.take j ++ l.drop c by unfold remL; rw [← HK.out]; rfl]
            exact h6
          · exact HX.out.keep fun b hb h => ⟨trivial, (hot5 b (by omega)).trans (hb02.block b hb)⟩
      · have HM2 : Hid (LA w (fun b => S b ∧ b < w.heap.size) (l.drop k) (some (ad.add (k * 4)))) := Lib.hid (HA.out.drop_map k)
        go_enter Tryd.func61, Tryd.ntmps61
        go_wp2_with (at_builtin; refine append_manyN w1.heap.size (fun b => S b ∧ b < w.heap.size) rfl _ _ rfl _ [] _ _ _ _ rfl rfl hlt (OwnL.empty (heap_alloc_new _ _) (by omega)) (HM1.out.beside (alloc_of hB1 _) (empty_new (by omega))) (by first | (simp; done) | (simp; omega)) (by rw [hlt]; simp only [List.length_nil]; omega) ?_; intro v1 w2 hO1 hg1; have hb1 := Below.grown (alloc_of (Below.refl w1.heap.size w1) _) hg1 (by first | (simp; done) | (simp; omega)) (empty_new (by omega)); have hown1 := hO1.own_lt; have hO1' := hO1; rw [List.nil_append] at hO1'; have HO1 := Lib.hid hO1'; clear hO1 hO1' HM1)
        have hb01 := chain_then hB1 hb1
        have q0 := cellB hb01 f0
        have q1 := cellB hb01 f1
        have q2 := cellB hb01 f2
        have q3 := cellB hb01 f3
        have hk2 := blockB hb1 HB0.out
        obtain ⟨x0, x1, x2, x3⟩ := block4 hk2
        have fz2 := free4 hk2
        have hne : ad.block ≠ w.heap.size := fun e => by have := World.block_lt_of_cell? w _ f0; rw [addr_add_block] at this; omega
        clear hk2 r0 r1 r2 r3 fzr hb0
        go_region_law (refine appendL_step w1.heap.size (fun b => S b ∧ b < w.heap.size) rfl (.tmp 22) (.tmp 26) rfl v1 (l.take j) (l.drop k) (some (ad.add (k * 4))) (l.length - k) (c - k) (by simp [Act.eval, Act.put]) (by simp [Act.eval, Act.put]) hld (HO1.out.keep Keeps.drew (fun _ _ => rfl)) (HM2.out.beside (drew_of hb01) (fun k e => Nat.le_trans hB1.size (hown1 k e).1)) hb1.size (by rw [hld, hlt]; omega) ?_; intro v2 w3 hO2 hg2 hat2; have hb2 := Below.grown (drew_of hb1) hg2 hb1.size (fun k e => (hown1 k e).1); have HO2 := Lib.hid hO2; have hb02 := chain_then hB1 hb2; have y0 := cellB hb02 f0; have y1 := cellB hb02 f1; have y2 := cellB hb02 f2; have y3 := cellB hb02 f3; have hk3 := blockB hb2 HB0.out; have HK3 := Lib.hid hk3; obtain ⟨z0, z1, z2, z3⟩ := block4 hk3; have fz3 := free4 hk3; clear hO2 hk3 HM2 HO1)
        all_goals
          obtain ⟨w5, hw5, hk5, hs5, hot5, hB5⟩ := store_box (w := w3) HK3.out (.int .i64 (itemAt l j).kind) (.int .i64 (itemAt l j).num) (.string (itemAt l j).text) (.slice A1 (itemAt l j).items.length cap1)
          rw [hw5]
          obtain ⟨k0, k1, k2, k3⟩ := block4 hk5
          have hb5 := hb02.trans (hB5 _ (Nat.le_refl _))
          go_wp2_with fail
          refine bodyPost_ret (v := .tuple #[v2, .agg #[.int .i64 (itemAt l j).kind, .int .i64 (itemAt l j).num, .string (itemAt l j).text, .slice A1 (itemAt l j).items.length cap1], .int .i64 0]) (by simp [results, Tryd.results61, go_sem, k0, k1, k2, k3]) rfl (.inr ⟨HIN.out, _, _, rfl, ?_, ?_, hb5⟩)
          · have h5 : OwnL w5 w1.heap.size (fun b => S b ∧ b < w.heap.size) (l.take j ++ l.drop k) v2 := HO2.out.keep (fun b hb h => ⟨h, hot5 b (by omega)⟩) (fun k e => hot5 k (by have := (HO2.out.own_lt k e).1; omega))
            have h6 := h5.is (S' := fun _ => True) (fun b h => trivial) (fun b h => trivial) (by rw [List.length_append, hld, hlt]; omega)
            rw [show remL l (j : Int).toNat = l.take j ++ l.drop k by unfold remL; rw [← HK.out]; rfl]
            exact h6
          · exact HX.out.keep fun b hb h => ⟨trivial, (hot5 b (by omega)).trans (hb02.block b hb)⟩
    · have d2 : decide ((l.length : Int) ≤ (j : Int)) = true := decide_eq_true (by omega)
      have hj3 : (l.length : Int) ≤ (j : Int) := by omega
      have HN := Lib.hid (show ¬ (0 ≤ (j : Int) ∧ (j : Int) < (l.length : Int)) by omega)
      obtain ⟨w5, hw5, hk5, hs5, hot5, hB5⟩ := store_box hb0 (.int .i64 0) (.int .i64 0) (.string ⟨#[]⟩) (.slice none 0 0)
      have hb5 := hB1.trans (hB5 _ (Nat.le_refl _))
      obtain ⟨g0, g1, g2, g3⟩ := block4 hk5
      clear hneg hA h hb0 hjl
      go_enter Tryd.func61, Tryd.ntmps61
      go_wp2_with fail
      refine bodyPost_ret (v := .tuple #[.slice none 0 0, .agg #[.int .i64 0, .int .i64 0, .string ⟨#[]⟩, .slice none 0 0], .int .i64 5]) (by simp [results, Tryd.results61, go_sem, g0, g1, g2, g3]) rfl (.inl ⟨HN.out, _, rfl, ?_, hb5⟩)
      exact IsV.mk (x := V.zero) (A := none) (cap := 0) zero_bd (by simp [V.zero, V.items]) (.inl rfl)
end Go.Proofs.YtjjbhnkplbjfeaaDoor
