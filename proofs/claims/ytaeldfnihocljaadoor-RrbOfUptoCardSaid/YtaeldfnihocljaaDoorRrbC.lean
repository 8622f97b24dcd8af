/- A tree over items. -/
import Derived.Test.YtaeldfnihocljaaDoorRrbB
import Derived.Test.YtaeldfnihocljaaDoorVec
import Derived.Test.YtaeldfnihocljaaDoorValE
set_option linter.unusedVariables false
set_option linter.unusedSimpArgs false
namespace Go.Proofs.YtaeldfnihocljaaDoor
open Go.RowKit
attribute [local go_sem] lt_succ_of

theorem new_calls (w : World) : Calls Tryd.prog 31 #[] w fun e w' => ∃ b, e = .returned (.pointer (some ⟨b, 0, none⟩)) ∧ IsR w' (fun b => w.heap.size ≤ b) [] 0 b ∧ Below w.heap.size w w' := by
  go_enter Tryd.func31, Tryd.ntmps31
  go_wp2_with fail
  go_ret
  exact ⟨w.heap.size, rfl, ⟨Nat.le_refl _, (cell_new2 w _ _ _).2, by simp, .inl ⟨rfl, rfl, (cell_new2 w _ _ _).1⟩⟩, (Below.refl _ _).alloc (Nat.le_refl _) _⟩

theorem over_part (r : List N) (ad : Addr) (n : Nat) (w : World) (T : Nat → Prop) (hn : n ≤ r.length) (h0 : 0 < n) (h32 : n ≤ 32) (hk : KC w T r ad 0) (hok : ∀ k, k ∈ r → N.Ok k) (hm : (N.flat r).length ≤ 65536) :
    Calls Tryd.prog 53 #[.slice (some ad) n n] w fun e w' => ∃ b, e = .returned (.pointer (some ⟨b, 0, none⟩)) ∧ IsB w' (fun b => (T b ∧ b < w.heap.size) ∨ w.heap.size ≤ b) (r.take n) b ∧ Below w.heap.size w w' := by
  have hl : (r.take n).length = n := by rw [List.length_take]; omega
  have hfl : (N.flat (r.take n)).length ≤ (N.flat r).length := by
    conv => rhs; rw [← List.take_append_drop n r, flat_append, List.length_append]
    omega
  have h := over_calls (r.take n) ad n w T (by omega) (hk.take n) (by omega) (by omega) (fun k hk => hok k (List.mem_of_mem_take hk)) (by omega)
  rw [hl] at h
  exact h

set_option maxRecDepth 100000 in
set_option maxHeartbeats 8000000 in
theorem build_calls (l : List V) (A : Option Addr) (cA : Nat) (w : World) (S : Nat → Prop) (hcA : l.length ≤ cA) (hl : l.length ≤ 65536) (hA : LA w S l A) :
    Calls Tryd.prog 43 #[.slice A l.length cA] w fun e w' => ∃ h b, e = .returned (.pointer (some ⟨b, 0, none⟩)) ∧ IsR w' (Old w S) l h b ∧ Below w.heap.size w w' := by
  by_cases h0 : l.length = 0
  · obtain rfl : l = [] := List.eq_nil_of_length_eq_zero h0
    simp only [List.length_nil]
    go_enter Tryd.func43, Tryd.ntmps43
    go_wp2_with (go_at_call 31; refine (new_calls _).mono ?_; rintro e w2 ⟨b, rfl, hb, hb2⟩)
    go_ret
    exact ⟨0, b, rfl, hb.keep (Keeps.weak fun b h => .inr h), hb2⟩
  · have h1 : ((l.length : Int) == 0) = false := by simpa using h0
    have hA2 : LA w (fun b => S b ∧ b < w.heap.size) l A := hA.keep (Keeps.below_to (Below.refl _ _) fun b h1 h2 => ⟨h2, h1⟩)
    clear hA
    go_enter Tryd.func43, Tryd.ntmps43
    go_wp2_with fail
    have HA := Lib.hid hA2
    clear hA2
    go_loopw [0, 3] (fun vl vk wr => ∃ (r f : List V) (A1 : Option Addr) (c1 : Nat) (ks : List N), vl = .slice A1 r.length c1 ∧ r.length ≤ c1 ∧ r.length + f.length = l.length ∧ Hid (l = f ++ r) ∧ Hid (LA w (fun b => S b ∧ b < w.heap.size) r A1) ∧ Hid (OwnN wr w.heap.size (Old w S) ks vk) ∧ Hid (N.flat ks = f) ∧ Hid (((∀ k, k ∈ ks → Pf 1 k) ∧ (r = [] → ks ≠ []) ∨ r = [] ∧ Lv 1 ks) ∧ ks.length ≤ f.length) ∧ Below w.heap.size w wr) (fun v _ _ => lenV v)
    case atStart => exact ⟨l, [], A, cA, [], rfl, hcA, rfl, Lib.hid rfl, HA, Lib.hid (OwnN.nil _ _ _), Lib.hid rfl, Lib.hid ⟨.inl ⟨by simp, fun h => absurd h (by intro e; subst e; simp at h0)⟩, by simp⟩, Below.refl _ _⟩
    case round =>
      obtain ⟨r, f, A1, c1, ks, rfl, hc1, hrf, HL, HA1, HO, HF, HP, hf⟩ := hrel
      obtain ⟨A2, c2, rfl, hc2⟩ := HO.out.form
      have hkl : ks.length ≤ 65536 := by have := HP.out.2; omega
      have hwr := hf.size
      by_cases hr : 0 < r.length
      · have hr1 : (0 : Int) < (r.length : Int) := by omega
        have hown := fun k hk => (HO.out.own_lt k hk).1
        have HA2 := HA1.out.keep (old_keeps hf hown)
        obtain ⟨ad, rfl, hLC⟩ : ∃ ad, A1 = some ad ∧ LC wr (fun b => Old w S b ∧ some b ≠ (Value.slice A2 ks.length c2).ownBlock) r ad 0 := by
          rcases HA2 with h | h
          · exfalso; subst h; simp at hr
          · exact h
        have HP1 : Hid ((∀ k, k ∈ ks → Pf 1 k) ∧ ks.length ≤ f.length) := by
          obtain ⟨h1 | h1, h2⟩ := HP.out
          · exact Lib.hid ⟨h1.1, h2⟩
          · exfalso; rw [h1.1] at hr; simp at hr
        clear HA2 hown HP
        by_cases h32 : 32 ≤ r.length
        · have h33 : (32 : Int) ≤ (r.length : Int) := by omega
          have HU := Lib.hid (leaf_part (.inr ⟨ad, rfl, hLC⟩) 32 h32)
          clear hLC
          go_wp2_with (first | (at_builtin; refine appendN_one w.heap.size (Old w S) rfl _ _ rfl (.slice A2 ks.length c2) ks (.leaf (r.take 32)) _ rfl rfl HO.out HU.out hwr (by omega) ?_; intro v1 w3 hO4 hg4 hat; have hO5 := Lib.hid hO4; clear hat hO4))
          go_roundw
          case rel =>
            refine ⟨r.drop 32, f ++ r.take 32, (if c1 = 32 then some ad else some ⟨ad.block, ad.off + 128, none⟩), c1 - 32, ks ++ [.leaf (r.take 32)], by simp [List.length_drop], by rw [List.length_drop]; omega, by rw [List.length_drop, List.length_append, List.length_take]; omega, Lib.hid (by rw [HL.out, List.append_assoc, List.take_append_drop]), Lib.hid (HA1.out.drop_if 32 128 c1 rfl (by omega) hc1), hO5, Lib.hid (by rw [flat_append, HF.out, flat_one, N.items]), Lib.hid ⟨.inl ⟨fun k hk => ?_, fun _ => by simp⟩, by have := HP1.out.2; rw [List.length_append, List.length_append, List.length_take]; simp; omega⟩, hf.grown hg4 hwr (fun k hk => (HO.out.own_lt k hk).1)⟩
            rcases List.mem_append.1 hk with hk | hk
            · exact HP1.out.1 k hk
            · rw [List.mem_singleton] at hk
              exact ⟨_, hk, by rw [List.length_take]; omega⟩
          case measure => simp [lenV, List.length_drop]; omega
        · have h33 : ¬ (32 : Int) ≤ (r.length : Int) := by omega
          have HU := Lib.hid (leaf_part (.inr ⟨ad, rfl, hLC⟩) r.length (Nat.le_refl _))
          clear hLC
          go_wp2_with (first | (at_builtin; refine appendN_one w.heap.size (Old w S) rfl _ _ rfl (.slice A2 ks.length c2) ks (.leaf (r.take r.length)) _ rfl rfl HO.out HU.out hwr (by omega) ?_; intro v1 w3 hO4 hg4 hat; have hO5 := Lib.hid hO4; clear hat hO4))
          go_roundw
          case rel =>
            rw [List.take_length] at hO5
            refine ⟨[], f ++ r, _, _, ks ++ [.leaf r], by simp; exact ⟨rfl, rfl⟩, by simp, by rw [List.length_append]; simp; omega, Lib.hid (by rw [HL.out, List.append_nil]), Lib.hid (.inl rfl), hO5, Lib.hid (by rw [flat_append, HF.out, flat_one, N.items]), Lib.hid ⟨.inr ⟨rfl, Lv.snoc HP1.out.1 ⟨r, rfl, List.length_pos_iff.1 hr, by omega⟩⟩, by have := HP1.out.2; rw [List.length_append, List.length_append]; simp; omega⟩, hf.grown hg4 hwr (fun k hk => (HO.out.own_lt k hk).1)⟩
          case measure => simp [lenV]; omega
      · obtain rfl : r = [] := List.eq_nil_of_length_eq_zero (by omega)
        have hr1 : ¬ (0 : Int) < ((([] : List V).length : Nat) : Int) := by simp
        have HLV : Hid (Lv 1 ks ∧ N.flat ks = l) := by
          refine Lib.hid ⟨?_, by rw [HF.out, HL.out, List.append_nil]⟩
          obtain ⟨h1 | h1, h2⟩ := HP.out
          · exact Lv.of_all h1.1 (h1.2 rfl)
          · exact h1.2
        have hne := HLV.out.1.ne
        obtain ⟨ad, rfl, hKC⟩ : ∃ ad, A2 = some ad ∧ KC wr (Old w S) ks ad 0 := by
          obtain ⟨A3, c3, he, h2, h3⟩ := HO.out.is (S' := Old w S) (fun b h => h) (fun b h => .inr h)
          injection he with he1 he2
          subst he1
          exact h3.resolve_left hne
        have HK := Lib.hid hKC
        clear hKC hne HP HF HL HO HA1
        simp only [List.length_nil]
        go_wp2_with fail
        go_loopw [3, 5] (fun vk vh wq => ∃ (h : Nat) (ks : List N) (ad : Addr) (c2 : Nat), vk = .slice (some ad) ks.length c2 ∧ vh = .int .i64 ((h + 1 : Nat) : Int) ∧ ks.length ≤ c2 ∧ ks.length + h ≤ 70000 ∧ Hid (KC wq (Old w S) ks ad 0) ∧ Hid (Lv (h + 1) ks ∧ N.flat ks = l) ∧ Hid (h = 0 ∨ 2 ≤ ks.length ∨ ∃ kk, ks = [.branch kk] ∧ 2 ≤ kk.length) ∧ Below w.heap.size w wq) (fun v _ _ => lenV v)
        case atStart => exact ⟨0, ks, ad, c2, rfl, by simp, hc2, by omega, HK, HLV, Lib.hid (.inl rfl), hf⟩
        clear HLV HK hc2 hkl hf hwr
        case round =>
          obtain ⟨ht, ms, am, cm, rfl, rfl, hcm, hkh, HK, HLV, HT, hf⟩ := hrel
          by_cases h1 : 1 < ms.length
          · have h2 : (1 : Int) < (ms.length : Int) := by omega
            go_wp2_with fail
            have HLEN := Lib.hid h1
            go_loopw [3, 6] (fun vk vu wq => ∃ (r f us : List N) (A2 : Option Addr) (c2 : Nat), vk = .slice A2 r.length c2 ∧ r.length ≤ c2 ∧ r.length + f.length = ms.length ∧ Hid (ms = f ++ r) ∧ Hid (KA wq (fun b => Old w S b ∧ some b ≠ vu.ownBlock) r A2) ∧ Hid (OwnN wq w.heap.size (Old w S) us vu) ∧ Hid (N.flat us = N.flat f) ∧ Hid (((∀ k, k ∈ us → Pf (ht + 2) k) ∧ us.length * 32 = f.length ∧ (r = [] → us ≠ []) ∨ r = [] ∧ Lv (ht + 2) us)) ∧ Hid (us.length * 32 < f.length + 32 ∧ (us = [] → f = []) ∧ (us.length = 1 → us = [.branch f])) ∧ Below w.heap.size w wq) (fun v _ _ => lenV v)
            case atStart => exact ⟨ms, [], [], some am, cm, rfl, hcm, rfl, Lib.hid rfl, Lib.hid (.inr ⟨am, rfl, HK.out.keep (Keeps.weak fun b h => ⟨h, by simp [Value.ownBlock]⟩)⟩), Lib.hid (OwnN.nil _ _ _), Lib.hid rfl, Lib.hid (.inl ⟨by simp, rfl, fun e => by subst e; simp at h1⟩), Lib.hid ⟨by simp, fun _ => rfl, by simp⟩, hf⟩
            case round =>
              obtain ⟨r, g, us, A2, c2, rfl, hc2, hrf, HL, HA1, HO, HF, HP, HQ, hfq⟩ := hrel
              obtain ⟨A3, c3, rfl, hc3⟩ := HO.out.form
              have hul : us.length ≤ 70000 := by have := HQ.out.1; omega
              have hwr := hfq.size
              by_cases hr : 0 < r.length
              · have hr1 : (0 : Int) < (r.length : Int) := by omega
                obtain ⟨ad, rfl, hKC⟩ : ∃ ad, A2 = some ad ∧ KC wr (fun b => Old w S b ∧ some b ≠ (Value.slice A3 us.length c3).ownBlock) r ad 0 := by
                  rcases HA1.out with h | h
                  · exfalso; subst h; simp at hr
                  · exact h
                have HLR : Hid (Lv (ht + 1) r ∧ (N.flat r).length ≤ 65536) := by
                  have h5 := HL.out
                  have h6 : r = ms.drop g.length := by rw [h5, List.drop_left]
                  refine Lib.hid ⟨by rw [h6]; exact HLV.out.1.drop (by omega), ?_⟩
                  have h7 := congrArg List.length HLV.out.2
                  rw [h5, flat_append, List.length_append] at h7
                  omega
                have hok := HLR.out.1.ok
                have hfl := HLR.out.2
                have HP1 : Hid ((∀ k, k ∈ us → Pf (ht + 2) k) ∧ us.length * 32 = g.length) := by
                  rcases HP.out with h1 | h1
                  · exact Lib.hid ⟨h1.1, h1.2.1⟩
                  · exfalso; rw [h1.1] at hr; simp at hr
                clear HA1 HP
                by_cases h32 : 32 ≤ r.length
                · have h33 : (32 : Int) ≤ (r.length : Int) := by omega
                  have HC := Lib.hid (over_part r ad 32 wr _ (by omega) (by omega) (by omega) hKC hok hfl)
                  have HKC := Lib.hid hKC
                  clear hKC hok hfl
                  go_wp2_with (first | (go_at_call 53; refine (HC.out).mono ?_; rintro e w3 ⟨b, rfl, hb, hb3⟩; have HO3 := Lib.hid (HO.out.below hb3); have HU := Lib.hid (IsN.branch_mk (branch_own hb hwr (fun k hk => (HO.out.own_lt k hk).2))); have hb4 := below_then hfq hwr hb3; have hwr3 := hb4.size; clear hb) | (at_builtin; refine appendN_one w.heap.size (Old w S) rfl _ _ rfl (.slice A3 us.length c3) us (.branch (r.take 32)) _ rfl rfl HO3.out HU.out hwr3 (by omega) ?_; intro v1 w4 hO4 hg4 hat; have hO5 := Lib.hid hO4; have HAT := Lib.hid hat; clear hat hO4))
                  · skip
                    go_roundw
                    case rel =>
                      have hKC3 := HKC.out.keep ((Keeps.below hb3).trans (grown_keeps hg4 HAT.out))
                      refine ⟨r.drop 32, g ++ r.take 32, us ++ [.branch (r.take 32)], (if c2 = 32 then some ad else some ⟨ad.block, ad.off + 32, none⟩), c2 - 32, by simp [List.length_drop, h], by rw [List.length_drop]; omega, by rw [List.length_drop, List.length_append, List.length_take]; omega, Lib.hid (by rw [HL.out, List.append_assoc, List.take_append_drop]), Lib.hid (KA.drop_if hKC3 32 c2 (by omega) hc2), hO5, Lib.hid (by rw [flat_append, HF.out, flat_one, flat_append, N.items]), Lib.hid ?_, Lib.hid ⟨by have := HP1.out.2; rw [List.length_append, List.length_append, List.length_take]; simp; omega, by simp, fun h => by
                          have hu : us = [] := List.eq_nil_of_length_eq_zero (by simpa using h)
                          rw [HQ.out.2.1 hu, hu]; rfl⟩, hb4.grown hg4 hwr3 (fun k hk => (HO3.out.own_lt k hk).1)⟩
                      · by_cases h34 : 32 < r.length
                        · exact .inl ⟨fun k hk => by
                            rcases List.mem_append.1 hk with hk | hk
                            · exact HP1.out.1 k hk
                            · rw [List.mem_singleton] at hk
                              exact ⟨_, hk, by rw [List.length_take]; omega, HLR.out.1.take h34⟩, by rw [List.length_append, List.length_append, List.length_take]; simp; have := HP1.out.2; omega, fun _ => by simp⟩
                        · refine .inr ⟨List.drop_eq_nil_of_le (by omega), Lv.snoc HP1.out.1 (by rw [List.take_of_length_le (by omega)]; exact HLR.out.1.dn (by omega))⟩
                    case measure => simp [lenV, List.length_drop]; omega
                  · skip
                    go_roundw
                    case rel =>
                      have hKC3 := HKC.out.keep ((Keeps.below hb3).trans (grown_keeps hg4 HAT.out))
                      refine ⟨r.drop 32, g ++ r.take 32, us ++ [.branch (r.take 32)], (if c2 = 32 then some ad else some ⟨ad.block, ad.off + 32, none⟩), c2 - 32, by simp [List.length_drop, h], by rw [List.length_drop]; omega, by rw [List.length_drop, List.length_append, List.length_take]; omega, Lib.hid (by rw [HL.out, List.append_assoc, List.take_append_drop]), Lib.hid (KA.drop_if hKC3 32 c2 (by omega) hc2), hO5, Lib.hid (by rw [flat_append, HF.out, flat_one, flat_append, N.items]), Lib.hid ?_, Lib.hid ⟨by have := HP1.out.2; rw [List.length_append, List.length_append, List.length_take]; simp; omega, by simp, fun h => by
                          have hu : us = [] := List.eq_nil_of_length_eq_zero (by simpa using h)
                          rw [HQ.out.2.1 hu, hu]; rfl⟩, hb4.grown hg4 hwr3 (fun k hk => (HO3.out.own_lt k hk).1)⟩
                      · by_cases h34 : 32 < r.length
                        · exact .inl ⟨fun k hk => by
                            rcases List.mem_append.1 hk with hk | hk
                            · exact HP1.out.1 k hk
                            · rw [List.mem_singleton] at hk
                              exact ⟨_, hk, by rw [List.length_take]; omega, HLR.out.1.take h34⟩, by rw [List.length_append, List.length_append, List.length_take]; simp; have := HP1.out.2; omega, fun _ => by simp⟩
                        · refine .inr ⟨List.drop_eq_nil_of_le (by omega), Lv.snoc HP1.out.1 (by rw [List.take_of_length_le (by omega)]; exact HLR.out.1.dn (by omega))⟩
                    case measure => simp [lenV, List.length_drop]; omega
                · have h33 : ¬ (32 : Int) ≤ (r.length : Int) := by omega
                  have HC := Lib.hid (over_part r ad r.length wr _ (by omega) (by omega) (by omega) hKC hok hfl)
                  have HKC := Lib.hid hKC
                  clear hKC hok hfl
                  go_wp2_with (first | (go_at_call 53; refine (HC.out).mono ?_; rintro e w3 ⟨b, rfl, hb, hb3⟩; have HO3 := Lib.hid (HO.out.below hb3); have HU := Lib.hid (IsN.branch_mk (branch_own hb hwr (fun k hk => (HO.out.own_lt k hk).2))); have hb4 := below_then hfq hwr hb3; have hwr3 := hb4.size; clear hb) | (at_builtin; refine appendN_one w.heap.size (Old w S) rfl _ _ rfl (.slice A3 us.length c3) us (.branch (r.take r.length)) _ rfl rfl HO3.out HU.out hwr3 (by omega) ?_; intro v1 w4 hO4 hg4 hat; have hO5 := Lib.hid hO4; have HAT := Lib.hid hat; clear hat hO4))
                  · skip
                    go_roundw
                    case rel =>
                      have hKC3 := HKC.out.keep ((Keeps.below hb3).trans (grown_keeps hg4 HAT.out))
                      refine ⟨[], g ++ r, us ++ [.branch r], _, _, ⟨rfl, rfl, rfl⟩, by simp, by rw [List.length_append]; simp; omega, Lib.hid (by rw [HL.out, List.append_nil]), Lib.hid (.inl rfl), by rw [List.take_length] at hO5; exact hO5, Lib.hid (by rw [flat_append, HF.out, flat_one, flat_append, N.items]), Lib.hid (.inr ⟨rfl, Lv.snoc HP1.out.1 (HLR.out.1.dn (by omega))⟩), Lib.hid ⟨by have := HP1.out.2; rw [List.length_append, List.length_append]; simp; omega, by simp, fun h => by
                          have hu : us = [] := List.eq_nil_of_length_eq_zero (by simpa using h)
                          rw [HQ.out.2.1 hu, hu]; rfl⟩, hb4.grown hg4 hwr3 (fun k hk => (HO3.out.own_lt k hk).1)⟩
                    case measure => simp [lenV, List.length_drop]; omega
                  · skip
                    go_roundw
                    case rel =>
                      have hKC3 := HKC.out.keep ((Keeps.below hb3).trans (grown_keeps hg4 HAT.out))
                      refine ⟨[], g ++ r, us ++ [.branch r], _, _, ⟨rfl, rfl, rfl⟩, by simp, by rw [List.length_append]; simp; omega, Lib.hid (by rw [HL.out, List.append_nil]), Lib.hid (.inl rfl), by rw [List.take_length] at hO5; exact hO5, Lib.hid (by rw [flat_append, HF.out, flat_one, flat_append, N.items]), Lib.hid (.inr ⟨rfl, Lv.snoc HP1.out.1 (HLR.out.1.dn (by omega))⟩), Lib.hid ⟨by have := HP1.out.2; rw [List.length_append, List.length_append]; simp; omega, by simp, fun h => by
                          have hu : us = [] := List.eq_nil_of_length_eq_zero (by simpa using h)
                          rw [HQ.out.2.1 hu, hu]; rfl⟩, hb4.grown hg4 hwr3 (fun k hk => (HO3.out.own_lt k hk).1)⟩
                    case measure => simp [lenV, List.length_drop]; omega
              · obtain rfl : r = [] := List.eq_nil_of_length_eq_zero (by omega)
                have hr1 : ¬ (0 : Int) < ((([] : List N).length : Nat) : Int) := by simp
                have hgm : g = ms := by rw [HL.out, List.append_nil]
                subst hgm
                have HLV2 : Hid (Lv (ht + 2) us ∧ N.flat us = l) := by
                  refine Lib.hid ⟨?_, by rw [HF.out, HLV.out.2]⟩
                  rcases HP.out with h1 | h1
                  · exact Lv.of_all h1.1 (h1.2.2 rfl)
                  · exact h1.2
                have hne := HLV2.out.1.ne
                obtain ⟨ad, rfl, hKC⟩ : ∃ ad, A3 = some ad ∧ KC wr (Old w S) us ad 0 := by
                  obtain ⟨A4, c4, he, h2, h3⟩ := HO.out.is (S' := Old w S) (fun b h => h) (fun b h => .inr h)
                  injection he with he1 he2
                  subst he1
                  exact h3.resolve_left hne
                have HK2 := Lib.hid hKC
                have HQ1 := HQ.out.1
                have hh : ((ht + 1 : Nat) : Int) + 1 = ((ht + 1 + 1 : Nat) : Int) := by omega
                clear hKC hne HP HF HL HO HA1
                simp only [List.length_nil]
                go_wp2_with fail
                go_roundw
                case rel =>
                  refine ⟨ht + 1, us, ad, c3, rfl, by go_num, hc3, by have := HLEN.out; omega, HK2, HLV2, Lib.hid ?_, hfq⟩
                  by_cases h2 : 2 ≤ us.length
                  · exact .inr (.inl h2)
                  · refine .inr (.inr ⟨_, HQ.out.2.2 (by have := List.length_pos_iff.2 HLV2.out.1.ne; omega), HLEN.out⟩)
                case measure =>
                  have := HLEN.out
                  simp [lenV]
                  omega
          · have h2 : ¬ (1 : Int) < (ms.length : Int) := by omega
            have h3 : ms.length = 1 := by have := HLV.out.1.ne; have := List.length_pos_iff.2 this; omega
            obtain ⟨k, rfl⟩ : ∃ k, ms = [k] := List.length_eq_one_iff.1 h3
            have hk := HK.out
            simp only [KC] at hk
            obtain ⟨hS, ⟨u, hu, hcu⟩, _⟩ := hk
            have hc0 : wr.cell? am = some u := by simpa [Addr.add] using hcu
            have hal := World.block_lt_of_cell? wr _ hc0
            obtain ⟨t, x, rfl⟩ := hu.form
            have HR : Hid (N.items k = l ∧ Dn (ht + 1) k ∧ (ht + 1 = 1 ∨ ∃ ks, k = .branch ks ∧ 2 ≤ ks.length)) := by
              obtain ⟨⟨js, k', e, _, h5⟩, h6⟩ := HLV.out
              have h7 : k' = k := by
                have := congrArg List.getLast? e
                simpa using this.symm
              subst h7
              rw [flat_one] at h6
              refine Lib.hid ⟨h6, h5, ?_⟩
              rcases HT.out with h8 | h8 | ⟨kk, h8, h9⟩
              · exact .inl (by omega)
              · simp at h8
              · injection h8 with h8 _
                exact .inr ⟨kk, h8, h9⟩
            have HU := Lib.hid hu
            clear hu hcu
            simp only [List.length_cons, List.length_nil] at hcm h2 h1 hkh ⊢
            go_wp2_with fail
            go_ret
            have hK : Keeps wr (Old w S) (wr.alloc (.cells #[.iface t x, .int .i64 ((ht : Int) + 1)] 83)) (Old w S) := Keeps.alloc _
            exact ⟨ht + 1, wr.heap.size, rfl, ⟨.inr hf.size, by rw [(cell_new2 wr _ _ _).2]; rfl, hl, .inr ⟨k, _, (cell_new2 wr _ _ _).1, HU.out.keep hK, HR.out⟩⟩, hf.alloc hf.size _⟩
end Go.Proofs.YtaeldfnihocljaaDoor
