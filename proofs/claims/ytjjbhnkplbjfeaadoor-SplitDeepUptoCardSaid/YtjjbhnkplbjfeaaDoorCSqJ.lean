/- The law SplitDeep. -/
import Derived.Test.YtjjbhnkplbjfeaaDoorCSqD

set_option linter.unusedVariables false
set_option linter.unusedSimpArgs false
namespace Go.Proofs.YtjjbhnkplbjfeaaDoor
open Go.RowKit
attribute [local go_sem] lt_succ_of

theorem IsI.below {w w' : World} {ns : List Int} {v : Value} (hb : Below w.heap.size w w') (h : IsI w ns v) : IsI w' ns v := by
  obtain ⟨A, cap, h1, h2, h3, h4, h5⟩ := h
  exact ⟨A, cap, h1, h2, h3, fun i hi => by obtain ⟨ad, e, hc⟩ := h4 i hi; exact ⟨ad, e, cellB hb hc⟩, h5⟩
theorem IsS.la {w : World} {S : Nat → Prop} {l : List V} {A : Option Addr} {n c : Nat} (h : IsS w S l (.slice A n c)) : LA w S l A := by
  obtain ⟨_, _, e, _, _, h⟩ := h
  simp only [Value.slice.injEq] at e
  rw [e.1]
  exact h
set_option maxRecDepth 100000 in
set_option maxHeartbeats 16000000 in
theorem splitdeep_calls (l m : List V) (ns : List Int) (A B N : Option Addr) (c d e : Nat) (w : World) (S S' : Nat → Prop) (hl : IsS w S l (.slice A l.length c)) (hm : IsS w S' m (.slice B m.length d)) (hn : IsI w ns (.slice N ns.length e)) (hT : Lib.Utf8Tabs 1 2 w) :
    Calls Tryd.prog 9 #[.agg #[.slice A l.length c, .slice B m.length d], .slice N ns.length e] w fun e w' => e = .returned (.bool true) ∧ Below w.heap.size w w' := by
  obtain ⟨w1, hw1, hB1, hsz, hb0⟩ := box2 w 78 (.slice A l.length c) (.slice B m.length d)
  obtain ⟨c0, c1⟩ := block2 hb0
  have HB0 := Lib.hid hb0
  have HL := Lib.hid (hl.below hB1)
  have HM := Lib.hid (hm.below hB1)
  have HN := Lib.hid (hn.below hB1)
  have HT := Lib.hid (tabs_below hT hB1)
  by_cases h0 : listE l = 0 ∧ listE m = 0
  · obtain ⟨h1, h2⟩ := h0
    have HMD := Lib.hid (made2_ok l m A B c d w1 S S' HL.out HM.out HT.out h1 h2)
    have HOL := Lib.hid h1
    have HOM := Lib.hid h2
    clear h1 h2 hl hm hn hT hb0
    go_enter Tryd.func9, Tryd.ntmps9
    go_wp2_with (first
      | (go_at_call 51; refine HMD.out.mono ?_; rintro e w2 ⟨a, b, rfl, ha2, hb2v, hb2⟩; have Ha := Lib.hid ha2; have Hb := Lib.hid hb2v; have K := Lib.hid (blockB hb2 HB0.out); clear c0 c1; obtain ⟨c0, c1⟩ := block2 K.out; clear ha2 hb2v HMD))
    go_loopw [5, 8, 9] (fun va vl vi wr => ∃ (k : Nat) (cur : List V) (ba : Nat) (v : Value), va = .pointer (some ⟨ba, 0, none⟩) ∧ v = vl ∧ vi = .int .i64 k ∧ k ≤ 40 ∧ Hid (IsE wr (fun _ => True) cur ba) ∧ Hid (IsS wr (fun _ => True) cur v) ∧ Hid (listE cur = 0) ∧ Hid (IsE wr (fun _ => True) m b) ∧ Hid (wr.heap[w.heap.size]? = some (.cells #[.slice A l.length c, .slice B m.length d] 78 (0, 0))) ∧ Below w1.heap.size w1 wr) (fun _ _ v _ => 40 - (intOf v).toNat)
    case atStart => exact ⟨0, l, a, _, rfl, rfl, rfl, by omega, Ha, Lib.hid ((HL.out.below hb2).keep (Keeps.weak fun _ _ => trivial)), HOL, Hb, K, hb2⟩
    case round =>
      obtain ⟨k, cur, ba, v, rfl, rfl, rfl, hk, hA, hS, hE, hB, hK, hf⟩ := hrel
      obtain ⟨C, cc, rfl, hcc, hcl, hCL⟩ := hS.out
      have HV := Lib.hid (IsS.keep (w' := wr) (S' := fun _ => True) (Keeps.weak fun _ _ => trivial) ⟨C, cc, rfl, hcc, hcl, hCL⟩)
      clear hCL
      have h65 := listE_len hE.out
      have h65m := listE_len HOM.out
      obtain ⟨c0, c1⟩ := block2 hK.out
      by_cases h1 : k < ns.length
      · have d1 : decide ((k : Int) < (ns.length : Int)) = true := decide_eq_true (by omega)
        have d1' : (k : Int) < (ns.length : Int) := by omega
        by_cases h2 : k < 40
        · have d2 : decide ((k : Int) < 40) = true := decide_eq_true (by omega)
          have i1 : IntKind.i64.wrap ((cur.length : Int) + (m.length : Int)) = (cur.length : Int) + (m.length : Int) := IntWalk.i64_in _ (by omega)
          by_cases h3 : 3000 < cur.length + m.length
          · have d3 : decide ((3000 : Int) < (cur.length : Int) + (m.length : Int)) = true := decide_eq_true (by omega)
            clear h1 h2 h3 h65 h65m
            have HIS := Lib.hid (is_calls cur ba _ wr _ _ hA.out HV.out)
            have hb9 := hf
            clear hA hS hE hB hK HV
            go_wp2_with (first
              | (go_at_call 45; refine HIS.out.mono ?_; rintro e wA ⟨rfl, hbA'⟩; have hbA := chain_then hb9 hbA'; clear HIS)
              | (go_at_call 38; refine (sspeaks_calls _ (tabs_below HT.out hbA)).mono ?_; rintro e wB ⟨rfl, hbB'⟩; have hbB := chain_then hB1 (chain_then hbA hbB')))
            go_ret
            exact ⟨rfl, hbB⟩

          · have d3 : decide ((3000 : Int) < (cur.length : Int) + (m.length : Int)) = false := decide_eq_false (by omega)
            obtain ⟨_, _, eN, _, _, hat, hrg⟩ := HN.out.below hf
            simp only [Value.slice.injEq, true_and] at eN
            obtain ⟨rfl, rfl⟩ := eN
            obtain ⟨nd, rfl, hcell⟩ := hat k h1
            obtain ⟨q, hq⟩ : ∃ q, ns.getD k 0 = q := ⟨_, rfl⟩
            rw [hq] at hcell
            clear hat hrg hq
            have HR := Lib.hid (show cur.length + m.length ≤ 3000 by omega)
            have H40 := Lib.hid h2
            by_cases hin : 0 ≤ q ∧ q ≤ (cur.length : Int)
            · obtain ⟨j, rfl⟩ : ∃ j : Nat, q = (j : Int) := ⟨q.toNat, by omega⟩
              have HIN := Lib.hid hin
              have hjl : j ≤ cur.length := by omega
              obtain ⟨U, hU⟩ : ∃ U, cur.take j = U := ⟨_, rfl⟩
              obtain ⟨D, hD⟩ : ∃ D, cur.drop j = D := ⟨_, rfl⟩
              have HCU := (cut_calls cur _ (j : Int) wr _ hA.out.is hE.out (tabs_below HT.out hf)).mono (fun e w' hh => (hh.resolve_left (fun h => h.1 HIN.out)).2)
              rw [Int.toNat_natCast, hU, hD] at HCU
              have HCU := Lib.hid HCU
              have HU := Lib.hid hU
              have HD := Lib.hid hD
              have hUD : U.length + D.length = cur.length := by rw [← hU, ← hD, List.length_take, List.length_drop]; omega
              have HLN := Lib.hid (show U.length + D.length + m.length ≤ 3000 by omega)
              have HEU := Lib.hid (show listE U = 0 by rw [← hU]; exact listE_take hE.out j)
              have HED := Lib.hid (show listE D = 0 by rw [← hD]; exact listE_drop hE.out j)
              have HE1 := Lib.hid (listE_append HED.out HOM.out (by omega))
              have HE2 := Lib.hid (listE_append HE1.out HEU.out (by rw [List.length_append]; omega))
              obtain ⟨L, hL⟩ : ∃ L, (D ++ m) ++ U = L := ⟨_, rfl⟩
              rw [hL] at HE2
              have HLL := Lib.hid hL
              have HL3 := Lib.hid (show L.length ≤ 3000 by rw [← hL, List.length_append, List.length_append]; have := HLN.out; omega)
              clear hin h1 h2 h3 h65 h65m hU hD hUD hjl hL
              go_wp2_with (first
                | (go_at_call 52; refine HCU.out.mono ?_; rintro e w3 ⟨p3, q3, rfl, hp3, hq3, hb3'⟩; have hcell := cellB hb3' hcell; have P3 := Lib.hid hp3; have Q3 := Lib.hid hq3; have HRC := (refcut_calls cur _ (j : Int) w3 _ (HV.out.below hb3') (listE_len hE.out)).mono (fun e w' hh => (hh.resolve_left (fun h => h.1 HIN.out)).2); rw [Int.toNat_natCast, HU.out, HD.out] at HRC; have HRC := Lib.hid HRC; clear HCU hp3 hq3)
                | (go_at_call 53; refine HRC.out.mono ?_; rintro e w4 ⟨u4, v4, rfl, hu4, hv4, hb4'⟩; have hb34 := chain_then hb3' hb4'; have U4 := Lib.hid hu4; have V4 := Lib.hid hv4; obtain ⟨Au, cu, rfl, hcu, _, _⟩ := hu4; obtain ⟨Av, cv, rfl, hcv, _, _⟩ := hv4; have HC1 := Lib.hid (concat_ok D m _ _ w4 _ _ (Q3.out.below hb4') (hB.out.below hb34).is HED.out HOM.out (by have := HLN.out; omega) (tabs_below HT.out (chain_then hf hb34))); clear HRC)
                | (go_at_call 54; refine HC1.out.mono ?_; rintro e w5 ⟨b5, rfl, hv5, hb5'⟩; have hb35 := chain_then hb34 hb5'; have HC2 := Lib.hid (concat_ok (D ++ m) U _ _ w5 _ _ hv5 (P3.out.below (chain_then hb4' hb5')).is HE1.out HEU.out (by rw [List.length_append]; have := HLN.out; omega) (tabs_below HT.out (chain_then hf hb35))); clear HC1 hv5)
                | (go_at_call 54; refine HC2.out.mono ?_; rintro e w6 ⟨b6, rfl, hv6, hb6'⟩; have hb36 := chain_then hb35 hb6'; rw [HLL.out] at hv6; have HN6 := Lib.hid hv6; have K6 := Lib.hid (blockB hb36 hK.out); clear c0 c1; obtain ⟨c0, c1⟩ := block2 K6.out; have U6 := Lib.hid (IsS.keep (w' := w6) (S' := fun b => True ∧ b < w6.heap.size) (fun b hb hs => ⟨⟨trivial, hb⟩, rfl⟩) (U4.out.below (chain_then hb5' hb6'))); have V6 := Lib.hid (IsS.keep (w' := w6) (S' := fun b => True ∧ b < w6.heap.size) (fun b hb hs => ⟨⟨trivial, hb⟩, rfl⟩) (V4.out.below (chain_then hb5' hb6'))); have M6 := Lib.hid (IsS.keep (w' := w6) (S' := fun b => True ∧ b < w6.heap.size) (fun b hb hs => ⟨⟨trivial, hb⟩, rfl⟩) (HM.out.below (chain_then hf hb36))); clear HC2 hv6)
                | (at_builtin; refine append_manyN w6.heap.size (fun b => True ∧ b < w6.heap.size) rfl _ _ rfl (.slice none 0 0) [] D Av _ cv rfl rfl rfl (OwnL.nil _ _ _) (V6.out.la.beside (Below.refl _ _) (fun k e => (by cases e))) (Nat.le_refl _) (by have := HLN.out; simp only [List.length_nil]; omega) ?_; intro v7 w7 hO7 hg7; have hb7 := Below.grown (Below.refl w6.heap.size w6) hg7 (Nat.le_refl _) (fun k e => (by cases e)); have hown7 := hO7.own_lt; have K7 := Lib.hid (blockB hb7 K6.out); clear c0 c1; obtain ⟨c0, c1⟩ := block2 K7.out; rw [List.nil_append] at hO7; have HO7 := Lib.hid hO7; clear hO7 hg7 V6)
                | (at_builtin; refine append_manyN w6.heap.size (fun b => True ∧ b < w6.heap.size) rfl _ _ rfl v7 D m B _ d rfl rfl rfl HO7.out (M6.out.la.beside hb7 (fun k e => (hown7 k e).1)) hb7.size (by have := HLN.out; omega) ?_; intro v8 w8 hO8 hg8; have hb8 := Below.grown hb7 hg8 hb7.size (fun k e => (hown7 k e).1); have hown8 := hO8.own_lt; have HO8 := Lib.hid hO8; clear hO8 hg8 M6 HO7)
                | (at_builtin; refine append_manyN w6.heap.size (fun b => True ∧ b < w6.heap.size) rfl _ _ rfl v8 (D ++ m) U Au _ cu rfl rfl rfl HO8.out (U6.out.la.beside hb8 (fun k e => (hown8 k e).1)) hb8.size (by have := HLN.out; rw [List.length_append]; omega) ?_; intro v9 w9 hO9 hg9; have hb9 := Below.grown hb8 hg9 hb8.size (fun k e => (hown8 k e).1); rw [HLL.out] at hO9; obtain ⟨A9, c9, rfl, _⟩ := hO9.form; have HO9 := Lib.hid (hO9.is (S' := fun _ => True) (fun _ _ => trivial) (fun _ _ => trivial) (by have := HL3.out; omega)); have HN9 := Lib.hid (HN6.out.below hb9); obtain ⟨n9, k9, hnk, HHT, HLV⟩ := high_is L _ _ _ HN9.out.is; have HHT := Lib.hid HHT; have HLV := Lib.hid HLV; have u3 : decide ((k9 : Int) < (n9 : Int)) = false := decide_eq_false hnk; clear hO9 hg9 U6 HO8)
                | (go_at_call 32; refine HHT.out.mono ?_; rintro e w10 ⟨rfl, rfl⟩)
                | (go_at_call 34; refine HLV.out.mono ?_; rintro e w10 ⟨rfl, rfl⟩))
              have hbR := chain_then hb36 hb9
              go_roundw
              case rel => exact ⟨k + 1, L, b6, _, rfl, rfl, by go_num, by have := H40.out; omega, HN9, HO9, HE2, Lib.hid (hB.out.below hbR), Lib.hid (blockB hbR hK.out), chain_then hf hbR⟩
              case measure => have := H40.out; simp [intOf]; omega
            · have HIN := Lib.hid hin
              have HCU := Lib.hid ((cut_calls cur _ q wr _ hA.out.is hE.out (tabs_below HT.out hf)).mono (fun e w' hh => (hh.resolve_right (fun h => HIN.out h.1)).2))
              clear hin h1 h2 h3 h65 h65m
              go_wp2_with (first
                | (go_at_call 52; refine HCU.out.mono ?_; rintro e w3 ⟨rfl, hb3'⟩; have hcell := cellB hb3' hcell; have HRC := Lib.hid ((refcut_calls cur _ q w3 _ (HV.out.below hb3') (listE_len hE.out)).mono (fun e w' hh => (hh.resolve_right (fun h => HIN.out h.1)).2)); clear HCU)
                | (go_at_call 53; refine HRC.out.mono ?_; rintro e w4 ⟨rfl, hb4'⟩; have hb34 := chain_then hb3' hb4'; clear HRC))
              go_roundw
              case rel => exact ⟨k + 1, cur, ba, _, rfl, rfl, by go_num, by have := H40.out; omega, Lib.hid (hA.out.below hb34), Lib.hid (HV.out.below hb34), hE, Lib.hid (hB.out.below hb34), Lib.hid (blockB hb34 hK.out), chain_then hf hb34⟩
              case measure => have := H40.out; simp [intOf]; omega
        · have d2 : decide ((k : Int) < 40) = false := decide_eq_false (by omega)
          clear h1 h2 h65 h65m
          have HIS := Lib.hid (is_calls cur ba _ wr _ _ hA.out HV.out)
          have hb9 := hf
          clear hA hS hE hB hK HV
          go_wp2_with (first
            | (go_at_call 45; refine HIS.out.mono ?_; rintro e wA ⟨rfl, hbA'⟩; have hbA := chain_then hb9 hbA'; clear HIS)
            | (go_at_call 38; refine (sspeaks_calls _ (tabs_below HT.out hbA)).mono ?_; rintro e wB ⟨rfl, hbB'⟩; have hbB := chain_then hB1 (chain_then hbA hbB')))
          go_ret
          exact ⟨rfl, hbB⟩

      · have d1 : decide ((k : Int) < (ns.length : Int)) = false := decide_eq_false (by omega)
        have d1' : ¬ (k : Int) < (ns.length : Int) := by omega
        clear h1 h65 h65m
        have HIS := Lib.hid (is_calls cur ba _ wr _ _ hA.out HV.out)
        have hb9 := hf
        clear hA hS hE hB hK HV
        go_wp2_with (first
          | (go_at_call 45; refine HIS.out.mono ?_; rintro e wA ⟨rfl, hbA'⟩; have hbA := chain_then hb9 hbA'; clear HIS)
          | (go_at_call 38; refine (sspeaks_calls _ (tabs_below HT.out hbA)).mono ?_; rintro e wB ⟨rfl, hbB'⟩; have hbB := chain_then hB1 (chain_then hbA hbB')))
        go_ret
        exact ⟨rfl, hbB⟩

  · have HMD := Lib.hid (made2_bad l m A B c d w1 S S' HL.out HM.out HT.out h0)
    clear h0 hl hm hn hT hb0
    go_enter Tryd.func9, Tryd.ntmps9
    go_wp2_with (first
      | (go_at_call 51; refine HMD.out.mono ?_; rintro e w2 ⟨p, q, rfl, hb2⟩)
      | (go_at_call 38; refine (sspeaks_calls _ (tabs_below HT.out hb2)).mono ?_; rintro e w3 ⟨rfl, hb3'⟩; have hb3 := chain_then hB1 (chain_then hb2 hb3')))
    go_ret
    exact ⟨rfl, hb3⟩
end Go.Proofs.YtjjbhnkplbjfeaaDoor
