/- The law FingerSteps. Written by mkFnLC.py. -/
import Derived.Test.YtjjbhnkplbjfeaaDoorCFnZ
import Derived.Test.YtjjbhnkplbjfeaaDoorCFnRefF
import Derived.Test.YtjjbhnkplbjfeaaDoorCSteps

set_option linter.unusedVariables false
set_option linter.unusedSimpArgs false
namespace Go.Proofs.YtjjbhnkplbjfeaaDoor
open Go.RowKit
attribute [local go_sem] lt_succ_of

/-- A step's box. -/
theorem box6 (w : World) (t : TypeId) (c0 c1 c2 c3 c4 c5 : Value) : ∃ w5, w.alloc (.cells #[c0, c1, c2, c3, c4, c5] t) = w5 ∧ Below w.heap.size w w5 ∧ w.heap.size + 1 = w5.heap.size ∧ w5.heap[w.heap.size]? = some (.cells #[c0, c1, c2, c3, c4, c5] t (0, 0)) :=
  ⟨_, rfl, (Below.refl _ _).alloc (Nat.le_refl _) _, by simp, heap_alloc_new w _⟩
theorem block6 {w : World} {b : Nat} {c0 c1 c2 c3 c4 c5 : Value} {t : TypeId} (h : w.heap[b]? = some (.cells #[c0, c1, c2, c3, c4, c5] t (0, 0))) :
    w.cell? ⟨b, 0, none⟩ = some c0 ∧ w.cell? ⟨b, 1, none⟩ = some c1 ∧ w.cell? ⟨b, 2, none⟩ = some c2 ∧ w.cell? ⟨b, 3, none⟩ = some c3 ∧ w.cell? ⟨b, 4, none⟩ = some c4 ∧ w.cell? ⟨b, 5, none⟩ = some c5 := by
  simp [World.cell?, h]
theorem IsS.form {w : World} {S : Nat → Prop} {l : List V} {v : Value} (h : IsS w S l v) : ∃ A c, v = .slice A l.length c := by
  obtain ⟨A, c, rfl, _⟩ := h
  exact ⟨A, c, rfl⟩
theorem IsS.all {w : World} {S : Nat → Prop} {l : List V} {v : Value} (h : IsS w S l v) : IsS w (fun _ => True) l v := h.keep (Keeps.weak fun _ _ => trivial)
/-- The height and its bound. -/
theorem high_ok (m : List V) (p : Option Addr) (w : World) (S : Nat → Prop) (h : IsD w S m p) :
    ∃ (n k : Nat) (z : Bool), ¬ ((k : Int) < (n : Int)) ∧ ((n : Int) == 0) = z ∧ ((m.length : Int) == 0) = z ∧ (Calls Tryd.prog 32 #[.pointer p] w fun e w' => e = .returned (.int .i64 (n : Int)) ∧ w = w') ∧ (Calls Tryd.prog 34 #[.int .i64 (m.length : Int)] w fun e w' => e = .returned (.int .i64 (k : Int)) ∧ w = w') := by
  obtain ⟨n, ⟨h1, h2⟩, h3⟩ := dheight_calls m p w S h
  obtain ⟨k, h4, h5⟩ := levels_calls m.length w h.1
  refine ⟨n, k, ((n : Int) == 0), ?_, rfl, ?_, h3, h5⟩
  · have := h4 n h1 h2
    omega
  · by_cases hz : m.length = 0
    · rw [hz, h1.2 hz]
    · have : n ≠ 0 := fun e => hz (h1.1 e)
      rw [beq_eq_false_iff_ne.2 (show (m.length : Int) ≠ 0 by omega), beq_eq_false_iff_ne.2 (show (n : Int) ≠ 0 by omega)]
set_option maxRecDepth 100000 in
set_option maxHeartbeats 16000000 in
theorem fingersteps_calls (l : List V) (ts : List St) (A0 : Option Addr) (c0 : Nat) (A : Option Addr) (cA : Nat) (w : World) (S : Nat → Prop) (hl : IsS w S l (.slice A0 l.length c0)) (hts : IsT w S ts (.slice A ts.length cA)) (hT : Lib.Utf8Tabs 1 2 w) :
    Calls Tryd.prog 5 #[.slice A0 l.length c0, .slice A ts.length cA] w fun e w' => e = .returned (.bool true) ∧ Below w.heap.size w w' := by
  have HOF := Lib.hid (dof_calls l _ w S hl hT)
  have HL := Lib.hid (hl.keep (Keeps.weak (S' := fun _ => True) fun _ _ => trivial))
  have HTS := Lib.hid (hts.keep (Keeps.weak (S' := fun _ => True) fun _ _ => trivial))
  have HT := Lib.hid hT
  have htl : ts.length ≤ 4294967296 := by obtain ⟨_, _, _, _, h, _⟩ := hts; exact h
  clear hl hT hts
  by_cases h0 : listE l = 0
  · rw [h0] at HOF
    clear h0
    go_enter Tryd.func5, Tryd.ntmps5
    go_wp2_with (first | (go_at_call 13; refine HOF.out.mono ?_; rintro e w2 ⟨p, rfl, hp, hb2⟩; obtain ⟨b, rfl, hv⟩ := (hp.resolve_left (fun h => h.1 rfl)).2; have HV := Lib.hid hv.all; have HL2 := Lib.hid (HL.out.below hb2); clear hp hv HOF))
    go_loopw [0, 5, 7] (fun vl vv vi wr => ∃ (i : Nat) (m : List V) (b : Nat) (Am : Option Addr) (cm : Nat), vi = .int .i64 i ∧ i ≤ ts.length ∧ vv = .pointer (some ⟨b, 0, none⟩) ∧ vl = .slice Am m.length cm ∧ Hid (IsE wr (fun _ => True) m b ∧ IsS wr (fun _ => True) m (.slice Am m.length cm)) ∧ Below w.heap.size w wr) (fun _ _ v _ => ts.length - (intOf v).toNat)
    case atStart => exact ⟨0, l, b, A0, c0, rfl, by omega, rfl, rfl, Lib.hid ⟨HV.out, HL2.out⟩, hb2⟩
    case round =>
      obtain ⟨i, m, b, Am, cm, rfl, hi, rfl, rfl, HR, hf⟩ := hrel
      by_cases hlt : i < ts.length
      · by_cases h200 : i < 200
        · have hi1 : (i : Int) < (ts.length : Int) := by omega
          have hi2 : (i : Int) < 200 := by omega
          obtain ⟨ad, A', c', rfl, hla, hbd, g0, g1, g2, g3, g4, g5, hx⟩ := (HTS.out.below hf).at i hlt
          obtain ⟨X, hX⟩ : ∃ X, stepAt ts i = X := ⟨_, rfl⟩
          rw [hX] at hbd g0 g1 g2 g3 g4 g5 hx
          clear hX
          obtain ⟨w3, hw3, hB3, hs3, hk3⟩ := box6 wr 46 (.int .i64 X.kind) (.int .i64 X.at_) (.int .i64 X.val.kind) (.int .i64 X.val.num) (.string X.val.text) (.slice A' X.val.items.length c')
          obtain ⟨w4, hw4, hB4, hs4, hkp, hkq⟩ := boxes2 w3 (.int .i64 0) (.int .i64 0) (.string ⟨#[]⟩) (.slice none 0 0) (.int .i64 0) (.int .i64 0) (.string ⟨#[]⟩) (.slice none 0 0) 33
          have hb3 := below_then hf hf.size hB3
          have hw3s := hb3.size
          have hb4 := below_then hb3 hb3.size hB4
          have hk4 := blockB hB4 hk3
          obtain ⟨q0, q1, q2, q3, q4, q5⟩ := block6 hk4
          have HK4 := Lib.hid hk4
          have hml := HR.out.1.1
          have HX4 := Lib.hid ((hx.below hB3).below hB4)
          have HR3 := Lib.hid (And.intro (HR.out.1.below hB3) (HR.out.2.below hB3))
          have HR4 := Lib.hid (And.intro (HR3.out.1.below hB4) (HR3.out.2.below hB4))
          have HBD := Lib.hid hbd
          have HML := Lib.hid hml
          have HKP := Lib.hid hkp
          have HKQ := Lib.hid hkq
          have ls4 := World.block_lt_of_cell? w4 _ q0
          clear hx hbd hk3 hk4 hml hkp hkq
          by_cases hk0 : X.kind = 0
          · have e0 : (X.kind == 0) = true := by simpa using hk0
            clear hk0
            have HST := dset_calls m _ X.at_ X.val _ w4 (fun _ => True) HR4.out.1.is HX4.out (tabs_below HT.out hb4) HBD.out.a0 HBD.out.a1
            by_cases hse : setE m X.at_ X.val = 0
            · rw [hse] at HST
              have HST := Lib.hid HST
              have HSE := Lib.hid hse
              clear hse
              go_wp2_with (first
                | (go_at_call 26; refine HST.out.mono ?_; rintro e w5 ⟨p, rfl, hp, hb5'⟩; obtain ⟨b', rfl, hv5⟩ := (hp.resolve_left (fun h => h.1 rfl)).2; have HV5 := Lib.hid hv5.all; have hk5 := blockB hb5' HK4.out; obtain ⟨y0, y1, y2, y3, y4, y5⟩ := block6 hk5; have HKP5 := Lib.hid (blockB hb5' HKP.out); have HKQ5 := Lib.hid (blockB hb5' HKQ.out); have HRF := refset_calls m X.at_ X.val _ _ w5 (fun _ => True) (HR4.out.2.below hb5') (HX4.out.below hb5') HBD.out.a0 HBD.out.a1 HML.out; rw [HSE.out] at HRF; have HRF := Lib.hid HRF; have hb5 := below_then hb4 hb4.size hb5'; have l5 := World.block_lt_of_cell? w5 _ y0; clear hp hv5 hk5 HST)
                | (go_at_call 27; refine HRF.out.mono ?_; rintro e w6 ⟨v6, rfl, hv6, _, hb6'⟩; replace hv6 := hv6 (by first | rfl | trivial); obtain ⟨M, hM⟩ : ∃ M, m.set X.at_.toNat X.val = M := ⟨_, rfl⟩; rw [hM] at hv6; have HV6 := HV5.out.below hb6'; rw [hM] at HV6; have HV6 := Lib.hid HV6; obtain ⟨A6, c6, rfl⟩ := hv6.form; have HL6 := Lib.hid hv6.all; have hb6 := below_then hb5 hb5.size hb6'; obtain ⟨p0, p1, p2, p3⟩ := block4 (blockB hb6' HKP5.out); have lp6 := World.block_lt_of_cell? w6 _ p0; obtain ⟨r0, r1, r2, r3⟩ := block4 (blockB hb6' HKQ5.out); have lq6 := World.block_lt_of_cell? w6 _ r0; clear hv6 hM HRF)
                | (go_at_call 21; refine (same_calls V.zero V.zero _ _ w6 (fun _ => True) (fun _ => True) (zero_is _ _) (zero_is _ _)).mono ?_; rintro e w9 ⟨rfl, hb9'⟩; rw [eqV_self]; have hb9 := below_then hb6 hb6.size hb9'; have HV9 := Lib.hid (HV6.out.below hb9'); have HL9 := Lib.hid (HL6.out.below hb9')))
              obtain ⟨n9, k9, z9, hnk, z1, z2, HHT, HLV⟩ := high_ok M _ _ _ HV9.out.is
              have HHT := Lib.hid HHT
              have HLV := Lib.hid HLV
              have HLN := Lib.hid (len_calls M _ _ _ HV9.out.is)
              have HV8 := Lib.hid (And.intro HV9.out HL9.out)
              have u1 : ¬ ((n9 : Int) < 0) := by omega
              have u2 : decide ((n9 : Int) < 0) = false := decide_eq_false u1
              have u3 : decide ((k9 : Int) < (n9 : Int)) = false := decide_eq_false hnk
              have u4 : (z9 != z9) = false := by simp
              have u5 : (((M.length : Nat) : Int) != ((M.length : Nat) : Int)) = false := by simp
              go_wp2_with (first
                | (go_at_call 32; refine HHT.out.mono ?_; rintro e w10 ⟨rfl, rfl⟩)
                | (go_at_call 33; refine HLN.out.mono ?_; rintro e w10 ⟨rfl, rfl⟩)
                | (go_at_call 34; refine HLV.out.mono ?_; rintro e w10 ⟨rfl, rfl⟩))
              go_roundw
              case rel => exact ⟨i + 1, M, b', A6, c6, by go_num, by omega, rfl, rfl, HV8, hb9⟩
              case measure => simp [intOf]; omega
            · obtain ⟨E, hE⟩ : ∃ E, setE m X.at_ X.val = E := ⟨_, rfl⟩
              rw [hE] at HST hse
              have e3 : (E == 0) = false := by simpa using hse
              have e4 : (E != 0) = true := by simpa using hse
              have e5 : (E != E) = false := by simp
              have HST := Lib.hid HST
              have HSE := Lib.hid hE
              have HNE := Lib.hid hse
              clear hse hE
              go_wp2_with (first
                | (go_at_call 26; refine HST.out.mono ?_; rintro e w5 ⟨p, rfl, hp, hb5'⟩; obtain rfl := (hp.resolve_right (fun h => HNE.out h.1)).2; have hk5 := blockB hb5' HK4.out; obtain ⟨y0, y1, y2, y3, y4, y5⟩ := block6 hk5; have HKP5 := Lib.hid (blockB hb5' HKP.out); have HKQ5 := Lib.hid (blockB hb5' HKQ.out); have HRF := refset_calls m X.at_ X.val _ _ w5 (fun _ => True) (HR4.out.2.below hb5') (HX4.out.below hb5') HBD.out.a0 HBD.out.a1 HML.out; rw [HSE.out] at HRF; have HRF := Lib.hid HRF; have hb5 := below_then hb4 hb4.size hb5'; have HV5 := Lib.hid (And.intro (HR4.out.1.below hb5') (HR4.out.2.below hb5')); have l5 := World.block_lt_of_cell? w5 _ y0; clear hp hk5 HST)
                | (go_at_call 27; refine HRF.out.mono ?_; rintro e w6 ⟨v6, rfl, _, ⟨A6, n6, c6, rfl, _⟩, hb6'⟩; have HV6 := Lib.hid (And.intro (HV5.out.1.below hb6') (HV5.out.2.below hb6')); have hb6 := below_then hb5 hb5.size hb6'; obtain ⟨p0, p1, p2, p3⟩ := block4 (blockB hb6' HKP5.out); have lp6 := World.block_lt_of_cell? w6 _ p0; obtain ⟨r0, r1, r2, r3⟩ := block4 (blockB hb6' HKQ5.out); have lq6 := World.block_lt_of_cell? w6 _ r0; clear HRF)
                | (go_at_call 21; refine (same_calls V.zero V.zero _ _ w6 (fun _ => True) (fun _ => True) (zero_is _ _) (zero_is _ _)).mono ?_; rintro e w9 ⟨rfl, hb9'⟩; rw [eqV_self]; have hb9 := below_then hb6 hb6.size hb9'; have HV9 := Lib.hid (HV6.out.1.below hb9'); have HL9 := Lib.hid (HV6.out.2.below hb9')))
              obtain ⟨n9, k9, z9, hnk, z1, z2, HHT, HLV⟩ := high_ok m _ _ _ HV9.out.is
              have HHT := Lib.hid HHT
              have HLV := Lib.hid HLV
              have HLN := Lib.hid (len_calls m _ _ _ HV9.out.is)
              have HV8 := Lib.hid (And.intro HV9.out HL9.out)
              have u1 : ¬ ((n9 : Int) < 0) := by omega
              have u2 : decide ((n9 : Int) < 0) = false := decide_eq_false u1
              have u3 : decide ((k9 : Int) < (n9 : Int)) = false := decide_eq_false hnk
              have u4 : (z9 != z9) = false := by simp
              have u5 : (((m.length : Nat) : Int) != ((m.length : Nat) : Int)) = false := by simp
              go_wp2_with (first
                | (go_at_call 32; refine HHT.out.mono ?_; rintro e w10 ⟨rfl, rfl⟩)
                | (go_at_call 33; refine HLN.out.mono ?_; rintro e w10 ⟨rfl, rfl⟩)
                | (go_at_call 34; refine HLV.out.mono ?_; rintro e w10 ⟨rfl, rfl⟩))
              go_roundw
              case rel => exact ⟨i + 1, m, b, Am, cm, by go_num, by omega, rfl, rfl, HV8, hb9⟩
              case measure => simp [intOf]; omega
          · have e0 : (X.kind == 0) = false := by simpa using hk0
            by_cases hk1 : X.kind = 1
            · have e1 : (X.kind == 1) = true := by simpa using hk1
              clear hk0 hk1
              have HST := dfront_calls m _ X.val _ w4 (fun _ => True) HR4.out.1.is HX4.out (tabs_below HT.out hb4)
              by_cases hse : pushE m X.val = 0
              · rw [hse] at HST
                have HST := Lib.hid HST
                have HSE := Lib.hid hse
                clear hse
                go_wp2_with (first
                  | (go_at_call 22; refine HST.out.mono ?_; rintro e w5 ⟨p, rfl, hp, hb5'⟩; obtain ⟨b', rfl, hv5⟩ := (hp.resolve_left (fun h => h.1 rfl)).2; have HV5 := Lib.hid hv5.all; have hk5 := blockB hb5' HK4.out; obtain ⟨y0, y1, y2, y3, y4, y5⟩ := block6 hk5; have HKP5 := Lib.hid (blockB hb5' HKP.out); have HKQ5 := Lib.hid (blockB hb5' HKQ.out); have HRF := reffront_calls m X.val _ _ w5 (fun _ => True) (HR4.out.2.below hb5') (HX4.out.below hb5') HML.out; rw [HSE.out] at HRF; have HRF := Lib.hid HRF; have hb5 := below_then hb4 hb4.size hb5'; have l5 := World.block_lt_of_cell? w5 _ y0; clear hp hv5 hk5 HST)
                  | (go_at_call 28; refine HRF.out.mono ?_; rintro e w6 ⟨v6, rfl, hv6, _, hb6'⟩; replace hv6 := hv6 (by first | rfl | trivial); obtain ⟨M, hM⟩ : ∃ M, X.val :: m = M := ⟨_, rfl⟩; rw [hM] at hv6; have HV6 := HV5.out.below hb6'; rw [hM] at HV6; have HV6 := Lib.hid HV6; obtain ⟨A6, c6, rfl⟩ := hv6.form; have HL6 := Lib.hid hv6.all; have hb6 := below_then hb5 hb5.size hb6'; obtain ⟨p0, p1, p2, p3⟩ := block4 (blockB hb6' HKP5.out); have lp6 := World.block_lt_of_cell? w6 _ p0; obtain ⟨r0, r1, r2, r3⟩ := block4 (blockB hb6' HKQ5.out); have lq6 := World.block_lt_of_cell? w6 _ r0; clear hv6 hM HRF)
                  | (go_at_call 21; refine (same_calls V.zero V.zero _ _ w6 (fun _ => True) (fun _ => True) (zero_is _ _) (zero_is _ _)).mono ?_; rintro e w9 ⟨rfl, hb9'⟩; rw [eqV_self]; have hb9 := below_then hb6 hb6.size hb9'; have HV9 := Lib.hid (HV6.out.below hb9'); have HL9 := Lib.hid (HL6.out.below hb9')))
                obtain ⟨n9, k9, z9, hnk, z1, z2, HHT, HLV⟩ := high_ok M _ _ _ HV9.out.is
                have HHT := Lib.hid HHT
                have HLV := Lib.hid HLV
                have HLN := Lib.hid (len_calls M _ _ _ HV9.out.is)
                have HV8 := Lib.hid (And.intro HV9.out HL9.out)
                have u1 : ¬ ((n9 : Int) < 0) := by omega
                have u2 : decide ((n9 : Int) < 0) = false := decide_eq_false u1
                have u3 : decide ((k9 : Int) < (n9 : Int)) = false := decide_eq_false hnk
                have u4 : (z9 != z9) = false := by simp
                have u5 : (((M.length : Nat) : Int) != ((M.length : Nat) : Int)) = false := by simp
                go_wp2_with (first
                  | (go_at_call 32; refine HHT.out.mono ?_; rintro e w10 ⟨rfl, rfl⟩)
                  | (go_at_call 33; refine HLN.out.mono ?_; rintro e w10 ⟨rfl, rfl⟩)
                  | (go_at_call 34; refine HLV.out.mono ?_; rintro e w10 ⟨rfl, rfl⟩))
                go_roundw
                case rel => exact ⟨i + 1, M, b', A6, c6, by go_num, by omega, rfl, rfl, HV8, hb9⟩
                case measure => simp [intOf]; omega
              · obtain ⟨E, hE⟩ : ∃ E, pushE m X.val = E := ⟨_, rfl⟩
                rw [hE] at HST hse
                have e3 : (E == 0) = false := by simpa using hse
                have e4 : (E != 0) = true := by simpa using hse
                have e5 : (E != E) = false := by simp
                have HST := Lib.hid HST
                have HSE := Lib.hid hE
                have HNE := Lib.hid hse
                clear hse hE
                go_wp2_with (first
                  | (go_at_call 22; refine HST.out.mono ?_; rintro e w5 ⟨p, rfl, hp, hb5'⟩; obtain rfl := (hp.resolve_right (fun h => HNE.out h.1)).2; have hk5 := blockB hb5' HK4.out; obtain ⟨y0, y1, y2, y3, y4, y5⟩ := block6 hk5; have HKP5 := Lib.hid (blockB hb5' HKP.out); have HKQ5 := Lib.hid (blockB hb5' HKQ.out); have HRF := reffront_calls m X.val _ _ w5 (fun _ => True) (HR4.out.2.below hb5') (HX4.out.below hb5') HML.out; rw [HSE.out] at HRF; have HRF := Lib.hid HRF; have hb5 := below_then hb4 hb4.size hb5'; have HV5 := Lib.hid (And.intro (HR4.out.1.below hb5') (HR4.out.2.below hb5')); have l5 := World.block_lt_of_cell? w5 _ y0; clear hp hk5 HST)
                  | (go_at_call 28; refine HRF.out.mono ?_; rintro e w6 ⟨v6, rfl, _, ⟨A6, n6, c6, rfl, _⟩, hb6'⟩; have HV6 := Lib.hid (And.intro (HV5.out.1.below hb6') (HV5.out.2.below hb6')); have hb6 := below_then hb5 hb5.size hb6'; obtain ⟨p0, p1, p2, p3⟩ := block4 (blockB hb6' HKP5.out); have lp6 := World.block_lt_of_cell? w6 _ p0; obtain ⟨r0, r1, r2, r3⟩ := block4 (blockB hb6' HKQ5.out); have lq6 := World.block_lt_of_cell? w6 _ r0; clear HRF)
                  | (go_at_call 21; refine (same_calls V.zero V.zero _ _ w6 (fun _ => True) (fun _ => True) (zero_is _ _) (zero_is _ _)).mono ?_; rintro e w9 ⟨rfl, hb9'⟩; rw [eqV_self]; have hb9 := below_then hb6 hb6.size hb9'; have HV9 := Lib.hid (HV6.out.1.below hb9'); have HL9 := Lib.hid (HV6.out.2.below hb9')))
                obtain ⟨n9, k9, z9, hnk, z1, z2, HHT, HLV⟩ := high_ok m _ _ _ HV9.out.is
                have HHT := Lib.hid HHT
                have HLV := Lib.hid HLV
                have HLN := Lib.hid (len_calls m _ _ _ HV9.out.is)
                have HV8 := Lib.hid (And.intro HV9.out HL9.out)
                have u1 : ¬ ((n9 : Int) < 0) := by omega
                have u2 : decide ((n9 : Int) < 0) = false := decide_eq_false u1
                have u3 : decide ((k9 : Int) < (n9 : Int)) = false := decide_eq_false hnk
                have u4 : (z9 != z9) = false := by simp
                have u5 : (((m.length : Nat) : Int) != ((m.length : Nat) : Int)) = false := by simp
                go_wp2_with (first
                  | (go_at_call 32; refine HHT.out.mono ?_; rintro e w10 ⟨rfl, rfl⟩)
                  | (go_at_call 33; refine HLN.out.mono ?_; rintro e w10 ⟨rfl, rfl⟩)
                  | (go_at_call 34; refine HLV.out.mono ?_; rintro e w10 ⟨rfl, rfl⟩))
                go_roundw
                case rel => exact ⟨i + 1, m, b, Am, cm, by go_num, by omega, rfl, rfl, HV8, hb9⟩
                case measure => simp [intOf]; omega
            · have e1 : (X.kind == 1) = false := by simpa using hk1
              by_cases hk2 : X.kind = 2
              · have e2 : (X.kind == 2) = true := by simpa using hk2
                clear hk0 hk1 hk2
                have HST := dback_calls m _ X.val _ w4 (fun _ => True) HR4.out.1.is HX4.out (tabs_below HT.out hb4)
                by_cases hse : pushE m X.val = 0
                · rw [hse] at HST
                  have HST := Lib.hid HST
                  have HSE := Lib.hid hse
                  clear hse
                  go_wp2_with (first
                    | (go_at_call 23; refine HST.out.mono ?_; rintro e w5 ⟨p, rfl, hp, hb5'⟩; obtain ⟨b', rfl, hv5⟩ := (hp.resolve_left (fun h => h.1 rfl)).2; have HV5 := Lib.hid hv5.all; have hk5 := blockB hb5' HK4.out; obtain ⟨y0, y1, y2, y3, y4, y5⟩ := block6 hk5; have HKP5 := Lib.hid (blockB hb5' HKP.out); have HKQ5 := Lib.hid (blockB hb5' HKQ.out); have HRF := refpush_calls m X.val _ _ w5 (fun _ => True) (HR4.out.2.below hb5') (HX4.out.below hb5') HML.out; rw [HSE.out] at HRF; have HRF := Lib.hid HRF; have hb5 := below_then hb4 hb4.size hb5'; have l5 := World.block_lt_of_cell? w5 _ y0; clear hp hv5 hk5 HST)
                    | (go_at_call 29; refine HRF.out.mono ?_; rintro e w6 ⟨v6, rfl, hv6, _, hb6'⟩; replace hv6 := hv6 (by first | rfl | trivial); obtain ⟨M, hM⟩ : ∃ M, m ++ [X.val] = M := ⟨_, rfl⟩; rw [hM] at hv6; have HV6 := HV5.out.below hb6'; rw [hM] at HV6; have HV6 := Lib.hid HV6; obtain ⟨A6, c6, rfl⟩ := hv6.form; have HL6 := Lib.hid hv6.all; have hb6 := below_then hb5 hb5.size hb6'; obtain ⟨p0, p1, p2, p3⟩ := block4 (blockB hb6' HKP5.out); have lp6 := World.block_lt_of_cell? w6 _ p0; obtain ⟨r0, r1, r2, r3⟩ := block4 (blockB hb6' HKQ5.out); have lq6 := World.block_lt_of_cell? w6 _ r0; clear hv6 hM HRF)
                    | (go_at_call 21; refine (same_calls V.zero V.zero _ _ w6 (fun _ => True) (fun _ => True) (zero_is _ _) (zero_is _ _)).mono ?_; rintro e w9 ⟨rfl, hb9'⟩; rw [eqV_self]; have hb9 := below_then hb6 hb6.size hb9'; have HV9 := Lib.hid (HV6.out.below hb9'); have HL9 := Lib.hid (HL6.out.below hb9')))
                  obtain ⟨n9, k9, z9, hnk, z1, z2, HHT, HLV⟩ := high_ok M _ _ _ HV9.out.is
                  have HHT := Lib.hid HHT
                  have HLV := Lib.hid HLV
                  have HLN := Lib.hid (len_calls M _ _ _ HV9.out.is)
                  have HV8 := Lib.hid (And.intro HV9.out HL9.out)
                  have u1 : ¬ ((n9 : Int) < 0) := by omega
                  have u2 : decide ((n9 : Int) < 0) = false := decide_eq_false u1
                  have u3 : decide ((k9 : Int) < (n9 : Int)) = false := decide_eq_false hnk
                  have u4 : (z9 != z9) = false := by simp
                  have u5 : (((M.length : Nat) : Int) != ((M.length : Nat) : Int)) = false := by simp
                  go_wp2_with (first
                    | (go_at_call 32; refine HHT.out.mono ?_; rintro e w10 ⟨rfl, rfl⟩)
                    | (go_at_call 33; refine HLN.out.mono ?_; rintro e w10 ⟨rfl, rfl⟩)
                    | (go_at_call 34; refine HLV.out.mono ?_; rintro e w10 ⟨rfl, rfl⟩))
                  go_roundw
                  case rel => exact ⟨i + 1, M, b', A6, c6, by go_num, by omega, rfl, rfl, HV8, hb9⟩
                  case measure => simp [intOf]; omega
                · obtain ⟨E, hE⟩ : ∃ E, pushE m X.val = E := ⟨_, rfl⟩
                  rw [hE] at HST hse
                  have e3 : (E == 0) = false := by simpa using hse
                  have e4 : (E != 0) = true := by simpa using hse
                  have e5 : (E != E) = false := by simp
                  have HST := Lib.hid HST
                  have HSE := Lib.hid hE
                  have HNE := Lib.hid hse
                  clear hse hE
                  go_wp2_with (first
                    | (go_at_call 23; refine HST.out.mono ?_; rintro e w5 ⟨p, rfl, hp, hb5'⟩; obtain rfl := (hp.resolve_right (fun h => HNE.out h.1)).2; have hk5 := blockB hb5' HK4.out; obtain ⟨y0, y1, y2, y3, y4, y5⟩ := block6 hk5; have HKP5 := Lib.hid (blockB hb5' HKP.out); have HKQ5 := Lib.hid (blockB hb5' HKQ.out); have HRF := refpush_calls m X.val _ _ w5 (fun _ => True) (HR4.out.2.below hb5') (HX4.out.below hb5') HML.out; rw [HSE.out] at HRF; have HRF := Lib.hid HRF; have hb5 := below_then hb4 hb4.size hb5'; have HV5 := Lib.hid (And.intro (HR4.out.1.below hb5') (HR4.out.2.below hb5')); have l5 := World.block_lt_of_cell? w5 _ y0; clear hp hk5 HST)
                    | (go_at_call 29; refine HRF.out.mono ?_; rintro e w6 ⟨v6, rfl, _, ⟨A6, n6, c6, rfl, _⟩, hb6'⟩; have HV6 := Lib.hid (And.intro (HV5.out.1.below hb6') (HV5.out.2.below hb6')); have hb6 := below_then hb5 hb5.size hb6'; obtain ⟨p0, p1, p2, p3⟩ := block4 (blockB hb6' HKP5.out); have lp6 := World.block_lt_of_cell? w6 _ p0; obtain ⟨r0, r1, r2, r3⟩ := block4 (blockB hb6' HKQ5.out); have lq6 := World.block_lt_of_cell? w6 _ r0; clear HRF)
                    | (go_at_call 21; refine (same_calls V.zero V.zero _ _ w6 (fun _ => True) (fun _ => True) (zero_is _ _) (zero_is _ _)).mono ?_; rintro e w9 ⟨rfl, hb9'⟩; rw [eqV_self]; have hb9 := below_then hb6 hb6.size hb9'; have HV9 := Lib.hid (HV6.out.1.below hb9'); have HL9 := Lib.hid (HV6.out.2.below hb9')))
                  obtain ⟨n9, k9, z9, hnk, z1, z2, HHT, HLV⟩ := high_ok m _ _ _ HV9.out.is
                  have HHT := Lib.hid HHT
                  have HLV := Lib.hid HLV
                  have HLN := Lib.hid (len_calls m _ _ _ HV9.out.is)
                  have HV8 := Lib.hid (And.intro HV9.out HL9.out)
                  have u1 : ¬ ((n9 : Int) < 0) := by omega
                  have u2 : decide ((n9 : Int) < 0) = false := decide_eq_false u1
                  have u3 : decide ((k9 : Int) < (n9 : Int)) = false := decide_eq_false hnk
                  have u4 : (z9 != z9) = false := by simp
                  have u5 : (((m.length : Nat) : Int) != ((m.length : Nat) : Int)) = false := by simp
                  go_wp2_with (first
                    | (go_at_call 32; refine HHT.out.mono ?_; rintro e w10 ⟨rfl, rfl⟩)
                    | (go_at_call 33; refine HLN.out.mono ?_; rintro e w10 ⟨rfl, rfl⟩)
                    | (go_at_call 34; refine HLV.out.mono ?_; rintro e w10 ⟨rfl, rfl⟩))
                  go_roundw
                  case rel => exact ⟨i + 1, m, b, Am, cm, by go_num, by omega, rfl, rfl, HV8, hb9⟩
                  case measure => simp [intOf]; omega
              · have e2 : (X.kind == 2) = false := by simpa using hk2
                by_cases hk3 : X.kind = 3
                · have e3 : (X.kind == 3) = true := by simpa using hk3
                  clear hk0 hk1 hk2 hk3
                  have hKX : Keeps w3 (fun _ => True) w4 (fun b => b ≠ w3.heap.size ∧ b ≠ w3.heap.size + 1) := fun b hb _ => ⟨⟨Nat.ne_of_lt hb, by omega⟩, hB4.block b hb⟩
                  clear HR4
                  have HR4 := Lib.hid (And.intro (HR3.out.1.keep hKX) (HR3.out.2.keep hKX))
                  have HST := dpopfirst_calls m _ w4 _ HR4.out.1.is
                  clear hKX
                  by_cases hm0 : m = []
                  · have hpe : popE m = 6 := by unfold popE; rw [if_pos (by rw [hm0]; rfl)]
                    rw [hpe] at HST
                    have HST := Lib.hid HST
                    have HPE := Lib.hid hpe
                    have HM0 := Lib.hid hm0
                    clear hm0 hpe
                    go_wp2_with (first
                      | (go_at_call 24; refine HST.out.mono ?_; rintro e w5 ⟨p, vx, rfl, hvx, hp, hb5⟩; obtain rfl := (hp.resolve_right (fun h => h.1 HM0.out)).2; obtain ⟨hbx, Ax, cx, rfl, hcx, hAx⟩ := hvx.eq; have hkp5 := blockB hb5 HKP.out; have hkq5 := blockB hb5 HKQ.out; obtain ⟨w6, hw6, hk6, hs6, hot6, hbw6⟩ := store_box hkp5 (.int .i64 (popFX m).kind) (.int .i64 (popFX m).num) (.string (popFX m).text) (.slice Ax (popFX m).items.length cx); obtain ⟨p0, p1, p2, p3⟩ := block4 hkp5; have fzp := free4 hkp5; have HK6 := Lib.hid hk6; have HKQ6 := Lib.hid ((hot6 (w3.heap.size + 1) (by omega)).trans hkq5); have hs5 := hb5.size; have HX6 := Lib.hid (hvx.keep (w' := w6) (S' := fun b => b ≠ w3.heap.size ∧ b ≠ w3.heap.size + 1) fun b hb (hs : w4.heap.size ≤ b) => ⟨⟨by omega, by omega⟩, hot6 b (by omega)⟩); have HL6 := Lib.hid ((HR4.out.2.below hb5).keep (w' := w6) (S' := fun b => b ≠ w3.heap.size ∧ b ≠ w3.heap.size + 1) fun b hb hs => ⟨hs, hot6 b hs.1⟩); have HV5 := Lib.hid ((HR4.out.1.below hb5).keep (w' := w6) (S' := fun b => b ≠ w3.heap.size ∧ b ≠ w3.heap.size + 1) fun b hb hs => ⟨hs, hot6 b hs.1⟩); have HRF := refpopfront_calls m _ w6 _ HL6.out HML.out; rw [HPE.out] at HRF; have HRF := Lib.hid HRF; have hb6 := (below_then hb4 hb4.size hb5).trans (hbw6 _ hw3s); clear hvx hp hkp5 hkq5 hk6 hot6 hbw6 hAx HST)
                      | (go_at_call 30; refine HRF.out.mono ?_; rintro e w7 ⟨v7, vq, rfl, hvq, hv7, ⟨A6, n6, c6, e7, _⟩, hb7⟩; obtain ⟨hbq, Aq, cq, rfl, hcq, hAq⟩ := hvq.eq; have hkq7 := blockB hb7 HKQ6.out; have hkp7 := blockB hb7 HK6.out; obtain ⟨w8, hw8, hk8, hs8, hot8, hbw8⟩ := store_box hkq7 (.int .i64 (popFX m).kind) (.int .i64 (popFX m).num) (.string (popFX m).text) (.slice Aq (popFX m).items.length cq); obtain ⟨r0, r1, r2, r3⟩ := block4 hkq7; have fzq := free4 hkq7; have hkp8 := (hot8 w3.heap.size (by omega)).trans hkp7; obtain ⟨u0, u1, u2, u3⟩ := block4 hkp8; obtain ⟨t0, t1, t2, t3⟩ := block4 hk8; have hs7 := hb7.size; have hkk : Keeps w7 (Old w6 (fun b => b ≠ w3.heap.size ∧ b ≠ w3.heap.size + 1)) w8 (fun _ => True) := (fun b hb hs => ⟨trivial, hot8 b (by rcases hs with hs | (hs : w6.heap.size ≤ b); exact hs.1.2; omega)⟩); have HQ8 := Lib.hid (hvq.keep hkk); have HP8 := Lib.hid (HX6.out.keep ((Keeps.below_to hb7 fun b h1 h2 => (.inl ⟨h2, h1⟩ : Old w6 (fun b => b ≠ w3.heap.size ∧ b ≠ w3.heap.size + 1) b)).trans hkk)); subst e7; have HV8 := Lib.hid (And.intro (HV5.out.keep ((Keeps.below_to hb7 fun b h1 h2 => (.inl ⟨h2, h1⟩ : Old w6 (fun b => b ≠ w3.heap.size ∧ b ≠ w3.heap.size + 1) b)).trans hkk)) (HL6.out.keep ((Keeps.below_to hb7 fun b h1 h2 => (.inl ⟨h2, h1⟩ : Old w6 (fun b => b ≠ w3.heap.size ∧ b ≠ w3.heap.size + 1) b)).trans hkk))); have hb8 := (below_then hb6 hb6.size hb7).trans (hbw8 _ (by omega)); have lp8 := World.block_lt_of_cell? w8 _ u0; have lq8 := World.block_lt_of_cell? w8 _ t0; clear hvq hv7 hkq7 hkp7 hk8 hot8 hbw8 hAq hkp8 hkk HRF)
                      | (go_at_call 21; refine (same_calls (popFX m) (popFX m) _ _ _ _ _ HP8.out HQ8.out).mono ?_; rintro e w9 ⟨rfl, hb9'⟩; rw [eqV_self]; have hb9 := below_then hb8 hb8.size hb9'; have HV9 := Lib.hid (HV8.out.1.below hb9'); have HL9 := Lib.hid (HV8.out.2.below hb9')))
                    obtain ⟨n9, k9, z9, hnk, z1, z2, HHT, HLV⟩ := high_ok m _ _ _ HV9.out.is
                    have HHT := Lib.hid HHT
                    have HLV := Lib.hid HLV
                    have HLN := Lib.hid (len_calls m _ _ _ HV9.out.is)
                    have HV8 := Lib.hid (And.intro HV9.out HL9.out)
                    have u1 : ¬ ((n9 : Int) < 0) := by omega
                    have u2 : decide ((n9 : Int) < 0) = false := decide_eq_false u1
                    have u3 : decide ((k9 : Int) < (n9 : Int)) = false := decide_eq_false hnk
                    have u4 : (z9 != z9) = false := by simp
                    have u5 : (((m.length : Nat) : Int) != ((m.length : Nat) : Int)) = false := by simp
                    go_wp2_with (first
                      | (go_at_call 32; refine HHT.out.mono ?_; rintro e w10 ⟨rfl, rfl⟩)
                      | (go_at_call 33; refine HLN.out.mono ?_; rintro e w10 ⟨rfl, rfl⟩)
                      | (go_at_call 34; refine HLV.out.mono ?_; rintro e w10 ⟨rfl, rfl⟩))
                    go_roundw
                    case rel => exact ⟨i + 1, m, b, Am, cm, by go_num, by omega, rfl, rfl, HV8, hb9⟩
                    case measure => simp [intOf]; omega
                  · have hpe : popE m = 0 := by unfold popE; rw [if_neg (fun e => hm0 (List.eq_nil_of_length_eq_zero e))]
                    rw [hpe] at HST
                    have HST := Lib.hid HST
                    have HPE := Lib.hid hpe
                    have HM0 := Lib.hid hm0
                    clear hm0 hpe
                    go_wp2_with (first
                      | (go_at_call 24; refine HST.out.mono ?_; rintro e w5 ⟨p, vx, rfl, hvx, hp, hb5⟩; obtain ⟨b', rfl, hv5⟩ := (hp.resolve_left (fun h => HM0.out h.1)).2; obtain ⟨hbx, Ax, cx, rfl, hcx, hAx⟩ := hvx.eq; have hkp5 := blockB hb5 HKP.out; have hkq5 := blockB hb5 HKQ.out; obtain ⟨w6, hw6, hk6, hs6, hot6, hbw6⟩ := store_box hkp5 (.int .i64 (popFX m).kind) (.int .i64 (popFX m).num) (.string (popFX m).text) (.slice Ax (popFX m).items.length cx); obtain ⟨p0, p1, p2, p3⟩ := block4 hkp5; have fzp := free4 hkp5; have HK6 := Lib.hid hk6; have HKQ6 := Lib.hid ((hot6 (w3.heap.size + 1) (by omega)).trans hkq5); have hs5 := hb5.size; have HX6 := Lib.hid (hvx.keep (w' := w6) (S' := fun b => b ≠ w3.heap.size ∧ b ≠ w3.heap.size + 1) fun b hb (hs : w4.heap.size ≤ b) => ⟨⟨by omega, by omega⟩, hot6 b (by omega)⟩); have HL6 := Lib.hid ((HR4.out.2.below hb5).keep (w' := w6) (S' := fun b => b ≠ w3.heap.size ∧ b ≠ w3.heap.size + 1) fun b hb hs => ⟨hs, hot6 b hs.1⟩); have HV5 := Lib.hid (hv5.keep (w' := w6) (S' := fun b => b ≠ w3.heap.size ∧ b ≠ w3.heap.size + 1) fun b hb hs => ⟨(by rcases hs with hs | (hs : w4.heap.size ≤ b); exact hs.1; exact ⟨by omega, by omega⟩), hot6 b (by rcases hs with hs | (hs : w4.heap.size ≤ b); exact hs.1.1; omega)⟩); clear hv5; have HRF := refpopfront_calls m _ w6 _ HL6.out HML.out; rw [HPE.out] at HRF; have HRF := Lib.hid HRF; have hb6 := (below_then hb4 hb4.size hb5).trans (hbw6 _ hw3s); clear hvx hp hkp5 hkq5 hk6 hot6 hbw6 hAx HST)
                      | (go_at_call 30; refine HRF.out.mono ?_; rintro e w7 ⟨v7, vq, rfl, hvq, hv7, ⟨A6, n6, c6, e7, _⟩, hb7⟩; obtain ⟨hbq, Aq, cq, rfl, hcq, hAq⟩ := hvq.eq; have hkq7 := blockB hb7 HKQ6.out; have hkp7 := blockB hb7 HK6.out; obtain ⟨w8, hw8, hk8, hs8, hot8, hbw8⟩ := store_box hkq7 (.int .i64 (popFX m).kind) (.int .i64 (popFX m).num) (.string (popFX m).text) (.slice Aq (popFX m).items.length cq); obtain ⟨r0, r1, r2, r3⟩ := block4 hkq7; have fzq := free4 hkq7; have hkp8 := (hot8 w3.heap.size (by omega)).trans hkp7; obtain ⟨u0, u1, u2, u3⟩ := block4 hkp8; obtain ⟨t0, t1, t2, t3⟩ := block4 hk8; have hs7 := hb7.size; have hkk : Keeps w7 (Old w6 (fun b => b ≠ w3.heap.size ∧ b ≠ w3.heap.size + 1)) w8 (fun _ => True) := (fun b hb hs => ⟨trivial, hot8 b (by rcases hs with hs | (hs : w6.heap.size ≤ b); exact hs.1.2; omega)⟩); have HQ8 := Lib.hid (hvq.keep hkk); have HP8 := Lib.hid (HX6.out.keep ((Keeps.below_to hb7 fun b h1 h2 => (.inl ⟨h2, h1⟩ : Old w6 (fun b => b ≠ w3.heap.size ∧ b ≠ w3.heap.size + 1) b)).trans hkk)); subst e7; obtain ⟨M, hM⟩ : ∃ M, m.tail = M := ⟨_, rfl⟩; replace hv7 := hv7 HM0.out; have HV7 := HV5.out.keep ((Keeps.below_to hb7 fun b h1 h2 => (.inl ⟨h2, h1⟩ : Old w6 (fun b => b ≠ w3.heap.size ∧ b ≠ w3.heap.size + 1) b)).trans hkk); rw [hM] at hv7 HV7; have hl7 := hv7.keep hkk; obtain ⟨A7, c7, e8⟩ := hv7.form; rw [e8] at hl7; simp only [Value.slice.injEq] at e8; obtain ⟨rfl, rfl, rfl⟩ := e8; have HV8 := Lib.hid (And.intro HV7 hl7); clear HV7 hl7 hM; have hb8 := (below_then hb6 hb6.size hb7).trans (hbw8 _ (by omega)); have lp8 := World.block_lt_of_cell? w8 _ u0; have lq8 := World.block_lt_of_cell? w8 _ t0; clear hvq hv7 hkq7 hkp7 hk8 hot8 hbw8 hAq hkp8 hkk HRF)
                      | (go_at_call 21; refine (same_calls (popFX m) (popFX m) _ _ _ _ _ HP8.out HQ8.out).mono ?_; rintro e w9 ⟨rfl, hb9'⟩; rw [eqV_self]; have hb9 := below_then hb8 hb8.size hb9'; have HV9 := Lib.hid (HV8.out.1.below hb9'); have HL9 := Lib.hid (HV8.out.2.below hb9')))
                    obtain ⟨n9, k9, z9, hnk, z1, z2, HHT, HLV⟩ := high_ok M _ _ _ HV9.out.is
                    have HHT := Lib.hid HHT
                    have HLV := Lib.hid HLV
                    have HLN := Lib.hid (len_calls M _ _ _ HV9.out.is)
                    have HV8 := Lib.hid (And.intro HV9.out HL9.out)
                    have u1 : ¬ ((n9 : Int) < 0) := by omega
                    have u2 : decide ((n9 : Int) < 0) = false := decide_eq_false u1
                    have u3 : decide ((k9 : Int) < (n9 : Int)) = false := decide_eq_false hnk
                    have u4 : (z9 != z9) = false := by simp
                    have u5 : (((M.length : Nat) : Int) != ((M.length : Nat) : Int)) = false := by simp
                    go_wp2_with (first
                      | (go_at_call 32; refine HHT.out.mono ?_; rintro e w10 ⟨rfl, rfl⟩)
                      | (go_at_call 33; refine HLN.out.mono ?_; rintro e w10 ⟨rfl, rfl⟩)
                      | (go_at_call 34; refine HLV.out.mono ?_; rintro e w10 ⟨rfl, rfl⟩))
                    go_roundw
                    case rel => exact ⟨i + 1, M, b', _, _, by go_num, by omega, rfl, rfl, HV8, hb9⟩
                    case measure => simp [intOf]; omega
                · have e3 : (X.kind == 3) = false := by simpa using hk3
                  clear hk0 hk1 hk2 hk3
                  have hKX : Keeps w3 (fun _ => True) w4 (fun b => b ≠ w3.heap.size ∧ b ≠ w3.heap.size + 1) := fun b hb _ => ⟨⟨Nat.ne_of_lt hb, by omega⟩, hB4.block b hb⟩
                  clear HR4
                  have HR4 := Lib.hid (And.intro (HR3.out.1.keep hKX) (HR3.out.2.keep hKX))
                  have HST := dpoplast_calls m _ w4 _ HR4.out.1.is
                  clear hKX
                  by_cases hm0 : m = []
                  · have hpe : popE m = 6 := by unfold popE; rw [if_pos (by rw [hm0]; rfl)]
                    rw [hpe] at HST
                    have HST := Lib.hid HST
                    have HPE := Lib.hid hpe
                    have HM0 := Lib.hid hm0
                    clear hm0 hpe
                    go_wp2_with (first
                      | (go_at_call 25; refine HST.out.mono ?_; rintro e w5 ⟨p, vx, rfl, hvx, hp, hb5⟩; obtain rfl := (hp.resolve_right (fun h => h.1 HM0.out)).2; obtain ⟨hbx, Ax, cx, rfl, hcx, hAx⟩ := hvx.eq; have hkp5 := blockB hb5 HKP.out; have hkq5 := blockB hb5 HKQ.out; obtain ⟨w6, hw6, hk6, hs6, hot6, hbw6⟩ := store_box hkp5 (.int .i64 (popX m).kind) (.int .i64 (popX m).num) (.string (popX m).text) (.slice Ax (popX m).items.length cx); obtain ⟨p0, p1, p2, p3⟩ := block4 hkp5; have fzp := free4 hkp5; have HK6 := Lib.hid hk6; have HKQ6 := Lib.hid ((hot6 (w3.heap.size + 1) (by omega)).trans hkq5); have hs5 := hb5.size; have HX6 := Lib.hid (hvx.keep (w' := w6) (S' := fun b => b ≠ w3.heap.size ∧ b ≠ w3.heap.size + 1) fun b hb (hs : w4.heap.size ≤ b) => ⟨⟨by omega, by omega⟩, hot6 b (by omega)⟩); have HL6 := Lib.hid ((HR4.out.2.below hb5).keep (w' := w6) (S' := fun b => b ≠ w3.heap.size ∧ b ≠ w3.heap.size + 1) fun b hb hs => ⟨hs, hot6 b hs.1⟩); have HV5 := Lib.hid ((HR4.out.1.below hb5).keep (w' := w6) (S' := fun b => b ≠ w3.heap.size ∧ b ≠ w3.heap.size + 1) fun b hb hs => ⟨hs, hot6 b hs.1⟩); have HRF := refpop_calls m _ w6 _ HL6.out HML.out; rw [HPE.out] at HRF; have HRF := Lib.hid HRF; have hb6 := (below_then hb4 hb4.size hb5).trans (hbw6 _ hw3s); clear hvx hp hkp5 hkq5 hk6 hot6 hbw6 hAx HST)
                      | (go_at_call 31; refine HRF.out.mono ?_; rintro e w7 ⟨v7, vq, rfl, hvq, hv7, ⟨A6, n6, c6, e7, _⟩, hb7⟩; obtain ⟨hbq, Aq, cq, rfl, hcq, hAq⟩ := hvq.eq; have hkq7 := blockB hb7 HKQ6.out; have hkp7 := blockB hb7 HK6.out; obtain ⟨w8, hw8, hk8, hs8, hot8, hbw8⟩ := store_box hkq7 (.int .i64 (popX m).kind) (.int .i64 (popX m).num) (.string (popX m).text) (.slice Aq (popX m).items.length cq); obtain ⟨r0, r1, r2, r3⟩ := block4 hkq7; have fzq := free4 hkq7; have hkp8 := (hot8 w3.heap.size (by omega)).trans hkp7; obtain ⟨u0, u1, u2, u3⟩ := block4 hkp8; obtain ⟨t0, t1, t2, t3⟩ := block4 hk8; have hs7 := hb7.size; have hkk : Keeps w7 (Old w6 (fun b => b ≠ w3.heap.size ∧ b ≠ w3.heap.size + 1)) w8 (fun _ => True) := (fun b hb hs => ⟨trivial, hot8 b (by rcases hs with hs | (hs : w6.heap.size ≤ b); exact hs.1.2; omega)⟩); have HQ8 := Lib.hid (hvq.keep hkk); have HP8 := Lib.hid (HX6.out.keep ((Keeps.below_to hb7 fun b h1 h2 => (.inl ⟨h2, h1⟩ : Old w6 (fun b => b ≠ w3.heap.size ∧ b ≠ w3.heap.size + 1) b)).trans hkk)); subst e7; have HV8 := Lib.hid (And.intro (HV5.out.keep ((Keeps.below_to hb7 fun b h1 h2 => (.inl ⟨h2, h1⟩ : Old w6 (fun b => b ≠ w3.heap.size ∧ b ≠ w3.heap.size + 1) b)).trans hkk)) (HL6.out.keep ((Keeps.below_to hb7 fun b h1 h2 => (.inl ⟨h2, h1⟩ : Old w6 (fun b => b ≠ w3.heap.size ∧ b ≠ w3.heap.size + 1) b)).trans hkk))); have hb8 := (below_then hb6 hb6.size hb7).trans (hbw8 _ (by omega)); have lp8 := World.block_lt_of_cell? w8 _ u0; have lq8 := World.block_lt_of_cell? w8 _ t0; clear hvq hv7 hkq7 hkp7 hk8 hot8 hbw8 hAq hkp8 hkk HRF)
                      | (go_at_call 21; refine (same_calls (popX m) (popX m) _ _ _ _ _ HP8.out HQ8.out).mono ?_; rintro e w9 ⟨rfl, hb9'⟩; rw [eqV_self]; have hb9 := below_then hb8 hb8.size hb9'; have HV9 := Lib.hid (HV8.out.1.below hb9'); have HL9 := Lib.hid (HV8.out.2.below hb9')))
                    obtain ⟨n9, k9, z9, hnk, z1, z2, HHT, HLV⟩ := high_ok m _ _ _ HV9.out.is
                    have HHT := Lib.hid HHT
                    have HLV := Lib.hid HLV
                    have HLN := Lib.hid (len_calls m _ _ _ HV9.out.is)
                    have HV8 := Lib.hid (And.intro HV9.out HL9.out)
                    have u1 : ¬ ((n9 : Int) < 0) := by omega
                    have u2 : decide ((n9 : Int) < 0) = false := decide_eq_false u1
                    have u3 : decide ((k9 : Int) < (n9 : Int)) = false := decide_eq_false hnk
                    have u4 : (z9 != z9) = false := by simp
                    have u5 : (((m.length : Nat) : Int) != ((m.length : Nat) : Int)) = false := by simp
                    go_wp2_with (first
                      | (go_at_call 32; refine HHT.out.mono ?_; rintro e w10 ⟨rfl, rfl⟩)
                      | (go_at_call 33; refine HLN.out.mono ?_; rintro e w10 ⟨rfl, rfl⟩)
                      | (go_at_call 34; refine HLV.out.mono ?_; rintro e w10 ⟨rfl, rfl⟩))
                    go_roundw
                    case rel => exact ⟨i + 1, m, b, Am, cm, by go_num, by omega, rfl, rfl, HV8, hb9⟩
                    case measure => simp [intOf]; omega
                  · have hpe : popE m = 0 := by unfold popE; rw [if_neg (fun e => hm0 (List.eq_nil_of_length_eq_zero e))]
                    rw [hpe] at HST
                    have HST := Lib.hid HST
                    have HPE := Lib.hid hpe
                    have HM0 := Lib.hid hm0
                    clear hm0 hpe
                    go_wp2_with (first
                      | (go_at_call 25; refine HST.out.mono ?_; rintro e w5 ⟨p, vx, rfl, hvx, hp, hb5⟩; obtain ⟨b', rfl, hv5⟩ := (hp.resolve_left (fun h => HM0.out h.1)).2; obtain ⟨hbx, Ax, cx, rfl, hcx, hAx⟩ := hvx.eq; have hkp5 := blockB hb5 HKP.out; have hkq5 := blockB hb5 HKQ.out; obtain ⟨w6, hw6, hk6, hs6, hot6, hbw6⟩ := store_box hkp5 (.int .i64 (popX m).kind) (.int .i64 (popX m).num) (.string (popX m).text) (.slice Ax (popX m).items.length cx); obtain ⟨p0, p1, p2, p3⟩ := block4 hkp5; have fzp := free4 hkp5; have HK6 := Lib.hid hk6; have HKQ6 := Lib.hid ((hot6 (w3.heap.size + 1) (by omega)).trans hkq5); have hs5 := hb5.size; have HX6 := Lib.hid (hvx.keep (w' := w6) (S' := fun b => b ≠ w3.heap.size ∧ b ≠ w3.heap.size + 1) fun b hb (hs : w4.heap.size ≤ b) => ⟨⟨by omega, by omega⟩, hot6 b (by omega)⟩); have HL6 := Lib.hid ((HR4.out.2.below hb5).keep (w' := w6) (S' := fun b => b ≠ w3.heap.size ∧ b ≠ w3.heap.size + 1) fun b hb hs => ⟨hs, hot6 b hs.1⟩); have HV5 := Lib.hid (hv5.keep (w' := w6) (S' := fun b => b ≠ w3.heap.size ∧ b ≠ w3.heap.size + 1) fun b hb hs => ⟨(by rcases hs with hs | (hs : w4.heap.size ≤ b); exact hs.1; exact ⟨by omega, by omega⟩), hot6 b (by rcases hs with hs | (hs : w4.heap.size ≤ b); exact hs.1.1; omega)⟩); clear hv5; have HRF := refpop_calls m _ w6 _ HL6.out HML.out; rw [HPE.out] at HRF; have HRF := Lib.hid HRF; have hb6 := (below_then hb4 hb4.size hb5).trans (hbw6 _ hw3s); clear hvx hp hkp5 hkq5 hk6 hot6 hbw6 hAx HST)
                      | (go_at_call 31; refine HRF.out.mono ?_; rintro e w7 ⟨v7, vq, rfl, hvq, hv7, ⟨A6, n6, c6, e7, _⟩, hb7⟩; obtain ⟨hbq, Aq, cq, rfl, hcq, hAq⟩ := hvq.eq; have hkq7 := blockB hb7 HKQ6.out; have hkp7 := blockB hb7 HK6.out; obtain ⟨w8, hw8, hk8, hs8, hot8, hbw8⟩ := store_box hkq7 (.int .i64 (popX m).kind) (.int .i64 (popX m).num) (.string (popX m).text) (.slice Aq (popX m).items.length cq); obtain ⟨r0, r1, r2, r3⟩ := block4 hkq7; have fzq := free4 hkq7; have hkp8 := (hot8 w3.heap.size (by omega)).trans hkp7; obtain ⟨u0, u1, u2, u3⟩ := block4 hkp8; obtain ⟨t0, t1, t2, t3⟩ := block4 hk8; have hs7 := hb7.size; have hkk : Keeps w7 (Old w6 (fun b => b ≠ w3.heap.size ∧ b ≠ w3.heap.size + 1)) w8 (fun _ => True) := (fun b hb hs => ⟨trivial, hot8 b (by rcases hs with hs | (hs : w6.heap.size ≤ b); exact hs.1.2; omega)⟩); have HQ8 := Lib.hid (hvq.keep hkk); have HP8 := Lib.hid (HX6.out.keep ((Keeps.below_to hb7 fun b h1 h2 => (.inl ⟨h2, h1⟩ : Old w6 (fun b => b ≠ w3.heap.size ∧ b ≠ w3.heap.size + 1) b)).trans hkk)); subst e7; obtain ⟨M, hM⟩ : ∃ M, m.dropLast = M := ⟨_, rfl⟩; replace hv7 := hv7 HM0.out; have HV7 := HV5.out.keep ((Keeps.below_to hb7 fun b h1 h2 => (.inl ⟨h2, h1⟩ : Old w6 (fun b => b ≠ w3.heap.size ∧ b ≠ w3.heap.size + 1) b)).trans hkk); rw [hM] at hv7 HV7; have hl7 := hv7.keep hkk; obtain ⟨A7, c7, e8⟩ := hv7.form; rw [e8] at hl7; simp only [Value.slice.injEq] at e8; obtain ⟨rfl, rfl, rfl⟩ := e8; have HV8 := Lib.hid (And.intro HV7 hl7); clear HV7 hl7 hM; have hb8 := (below_then hb6 hb6.size hb7).trans (hbw8 _ (by omega)); have lp8 := World.block_lt_of_cell? w8 _ u0; have lq8 := World.block_lt_of_cell? w8 _ t0; clear hvq hv7 hkq7 hkp7 hk8 hot8 hbw8 hAq hkp8 hkk HRF)
                      | (go_at_call 21; refine (same_calls (popX m) (popX m) _ _ _ _ _ HP8.out HQ8.out).mono ?_; rintro e w9 ⟨rfl, hb9'⟩; rw [eqV_self]; have hb9 := below_then hb8 hb8.size hb9'; have HV9 := Lib.hid (HV8.out.1.below hb9'); have HL9 := Lib.hid (HV8.out.2.below hb9')))
                    obtain ⟨n9, k9, z9, hnk, z1, z2, HHT, HLV⟩ := high_ok M _ _ _ HV9.out.is
                    have HHT := Lib.hid HHT
                    have HLV := Lib.hid HLV
                    have HLN := Lib.hid (len_calls M _ _ _ HV9.out.is)
                    have HV8 := Lib.hid (And.intro HV9.out HL9.out)
                    have u1 : ¬ ((n9 : Int) < 0) := by omega
                    have u2 : decide ((n9 : Int) < 0) = false := decide_eq_false u1
                    have u3 : decide ((k9 : Int) < (n9 : Int)) = false := decide_eq_false hnk
                    have u4 : (z9 != z9) = false := by simp
                    have u5 : (((M.length : Nat) : Int) != ((M.length : Nat) : Int)) = false := by simp
                    go_wp2_with (first
                      | (go_at_call 32; refine HHT.out.mono ?_; rintro e w10 ⟨rfl, rfl⟩)
                      | (go_at_call 33; refine HLN.out.mono ?_; rintro e w10 ⟨rfl, rfl⟩)
                      | (go_at_call 34; refine HLV.out.mono ?_; rintro e w10 ⟨rfl, rfl⟩))
                    go_roundw
                    case rel => exact ⟨i + 1, M, b', _, _, by go_num, by omega, rfl, rfl, HV8, hb9⟩
                    case measure => simp [intOf]; omega
        · have hi1 : (i : Int) < (ts.length : Int) := by omega
          have hi2 : ¬ (i : Int) < 200 := by omega
          have hi3 : decide ((i : Int) < 200) = false := decide_eq_false hi2
          go_wp2_with (first
            | (go_at_call 16; refine (dsame_calls m b _ _ _ _ HR.out.1 HR.out.2).mono ?_; rintro e w3 ⟨rfl, hb3⟩; have hb4 := below_then hf hf.size hb3)
            | (go_at_call 15; refine (fspeaks_calls _ (tabs_below HT.out hb4)).mono ?_; rintro e w5 ⟨rfl, hb5⟩; have hb6 := below_then hb4 hb4.size hb5))
          go_ret
          exact ⟨rfl, hb6⟩
      · have hi1 : ¬ (i : Int) < (ts.length : Int) := by omega
        have hi3 : decide ((i : Int) < (ts.length : Int)) = false := decide_eq_false hi1
        go_wp2_with (first
          | (go_at_call 16; refine (dsame_calls m b _ _ _ _ HR.out.1 HR.out.2).mono ?_; rintro e w3 ⟨rfl, hb3⟩; have hb4 := below_then hf hf.size hb3)
          | (go_at_call 15; refine (fspeaks_calls _ (tabs_below HT.out hb4)).mono ?_; rintro e w5 ⟨rfl, hb5⟩; have hb6 := below_then hb4 hb4.size hb5))
        go_ret
        exact ⟨rfl, hb6⟩
  · have h1 : (listE l != 0) = true := by simpa using h0
    have h2 : (listE l == 0) = false := by simpa using h0
    have HN := Lib.hid h0
    obtain ⟨E, hE⟩ : ∃ E, listE l = E := ⟨_, rfl⟩
    rw [hE] at HOF HN h1 h2 h0
    clear hE
    go_enter Tryd.func5, Tryd.ntmps5
    go_wp2_with (first
      | (go_at_call 13; refine HOF.out.mono ?_; rintro e w2 ⟨p, rfl, hp, hb2⟩; obtain rfl := (hp.resolve_right (fun h => HN.out h.1)).2; clear hp)
      | (go_at_call 15; refine (fspeaks_calls _ (tabs_below HT.out hb2)).mono ?_; rintro e w5 ⟨rfl, hb5⟩; have hb6 := below_then hb2 hb2.size hb5))
    go_ret
    exact ⟨rfl, hb6⟩
end Go.Proofs.YtjjbhnkplbjfeaaDoor
