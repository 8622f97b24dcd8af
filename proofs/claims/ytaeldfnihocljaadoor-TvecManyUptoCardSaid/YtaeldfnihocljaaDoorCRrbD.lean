/- Vectors of lists, their items. One item of a vector. -/
import Derived.Deep.LoopGhost
import Derived.Test.YtaeldfnihocljaaDoorCRrbA
import Derived.Test.YtaeldfnihocljaaDoorCValF
import Derived.Test.YtaeldfnihocljaaDoorCValH
import Derived.Test.YtaeldfnihocljaaDoorCBase
/- Vectors of lists, their items. -/
set_option linter.unusedVariables false
set_option linter.unusedSimpArgs false
namespace Go.Proofs.YtaeldfnihocljaaDoor
open Go.RowKit
attribute [local go_sem] lt_succ_of methLeaf methBranch

/-- What Of answers. -/
theorem of_calls (l : List V) (vl : Value) (w : World) (S : Nat → Prop) (hl : IsS w S l vl) (hT : Lib.Utf8Tabs 0 1 w) :
    Calls Tryd.prog 11 #[vl] w fun e w' => ∃ p, e = .returned (.tuple #[p, .int .i64 (listE l)]) ∧ ((listE l ≠ 0 ∧ p = .pointer none) ∨ (listE l = 0 ∧ ∃ h b, p = .pointer (some ⟨b, 0, none⟩) ∧ IsR w' (fun b => w.heap.size ≤ b) l h b)) ∧ Below w.heap.size w w' := by
  have HV := Lib.hid (values_calls l vl w S hl hT)
  have HL := Lib.hid hl
  obtain ⟨A, cA, rfl, hcA, hla, hA⟩ := hl
  by_cases h0 : listE l = 0
  · have hle : l.length ≤ 65536 := by
      unfold listE at h0
      split at h0
      · omega
      · omega
    have HE := Lib.hid h0
    obtain ⟨E, hE⟩ : ∃ E, listE l = E := ⟨_, rfl⟩
    rw [hE] at HV HE h0 ⊢
    subst h0
    clear hA hT
    go_enter Tryd.func11, Tryd.ntmps11
    go_wp2_with (first | (go_at_call 42; refine HV.out.mono ?_; rintro e w2 ⟨rfl, hb2⟩; have HL2 := Lib.hid (HL.out.below hb2)) | (go_at_call 44; refine (owns_calls l _ _ S HL2.out).mono ?_; rintro e w3 ⟨v, rfl, hv, hb3⟩; obtain ⟨A3, c3, rfl, hc3, hl3, hA3⟩ := hv; have HA3 := Lib.hid hA3; have hb4 := below_then hb2 hb2.size hb3; clear hA3) | (go_at_call 43; refine (build_calls l A3 c3 w3 _ hc3 hle HA3.out).mono ?_; rintro e w5 ⟨h, b, rfl, hr, hb5⟩; have HR := Lib.hid hr; clear hr))
    go_ret2
    exact ⟨_, rfl, .inr ⟨by trivial, h, b, rfl, HR.out.keep (Keeps.weak fun b hb => by
      rcases hb with hb | hb
      · exact Nat.le_trans hb2.size hb.1
      · exact Nat.le_trans hb4.size hb)⟩, below_then hb4 hb4.size hb5⟩
  · have h1 : (listE l != 0) = true := by simpa using h0
    have h2 : (listE l == 0) = false := by simpa using h0
    have HN := Lib.hid h0
    obtain ⟨E, hE⟩ : ∃ E, listE l = E := ⟨_, rfl⟩
    rw [hE] at HV HN h0 h1 h2 ⊢
    clear hA hT
    go_enter Tryd.func11, Tryd.ntmps11
    go_wp2_with (first | (go_at_call 42; refine HV.out.mono ?_; rintro e w2 ⟨rfl, hb2⟩))
    go_ret2
    exact ⟨_, rfl, .inl ⟨HN.out, rfl⟩, hb2⟩
theorem len_nil_calls (w : World) : Calls Tryd.prog 24 #[.pointer none] w fun e w' => e = .returned (.int .i64 0) ∧ Below w.heap.size w w' := by
  go_enter Tryd.func24, Tryd.ntmps24
  go_wp2_with fail
  go_ret
  exact ⟨rfl, Below.refl _ _⟩
theorem len_calls (l : List V) (h b : Nat) (w : World) (S : Nat → Prop) (hr : IsR w S l h b) :
    Calls Tryd.prog 24 #[.pointer (some ⟨b, 0, none⟩)] w fun e w' => e = .returned (.int .i64 l.length) ∧ Below w.heap.size w w' := by
  have hb := hr.at
  obtain ⟨_, _, hl, ⟨rfl, rfl, h0⟩ | ⟨n, u, h0, hu, hn, hd, _⟩⟩ := hr
  · simp only [List.length_nil]
    go_enter Tryd.func24, Tryd.ntmps24
    go_wp2_with fail
    go_ret
    exact ⟨rfl, Below.refl _ _⟩
  · have hok := hd.ok
    cases n with
    | leaf m =>
      obtain ⟨A, cap, rfl, hc, hA⟩ := hu.leaf_eq
      simp only [N.items] at hn
      subst hn
      clear hA hu hok hd
      go_enter Tryd.func24, Tryd.ntmps24
      go_wp2_with (first | (go_at_call 106; refine (leafsize_calls m A cap w).mono ?_; rintro e w2 ⟨rfl, rfl⟩))
      go_ret
      exact ⟨rfl, Below.refl _ _⟩
    | branch ks =>
      obtain ⟨b1, rfl, hB⟩ := hu.branch_eq
      obtain ⟨hn0, h32, _⟩ := hok.branch
      simp only [N.items] at hn
      subst hn
      have HC := Lib.hid (branchsize_calls ks b1 w _ hB (List.length_pos_iff.2 hn0) (by omega))
      clear hB hu hok hd hn0 h32
      go_enter Tryd.func24, Tryd.ntmps24
      go_wp2_with (first | (go_at_call 105; refine HC.out.mono ?_; rintro e w2 ⟨rfl, hb2⟩))
      go_ret
      exact ⟨rfl, hb2⟩
end Go.Proofs.YtaeldfnihocljaaDoor

/- One item of a vector. -/
set_option linter.unusedVariables false
set_option linter.unusedSimpArgs false
namespace Go.Proofs.YtaeldfnihocljaaDoor
open Go.RowKit
attribute [local go_sem] lt_succ_of methLeaf methBranch asNone asSome asLeaf asBranch

/-- What Nth answers. -/
def nthV (l : List V) (i : Int) : V × Int := if 0 ≤ i ∧ i < l.length then (itemAt l i.toNat, 0) else (V.zero, 5)
set_option maxRecDepth 100000 in
set_option maxHeartbeats 8000000 in
theorem nth_calls (l : List V) (h b : Nat) (i : Int) (w : World) (S : Nat → Prop) (hr : IsR w S l h b) (hi0 : -9223372036854775808 ≤ i) (hi1 : i ≤ 9223372036854775807) :
    Calls Tryd.prog 15 #[.pointer (some ⟨b, 0, none⟩), .int .i64 i] w fun e w' => ∃ v, e = .returned (.tuple #[v, .int .i64 (nthV l i).2]) ∧ IsV w' (fun b => w.heap.size ≤ b) (nthV l i).1 v ∧ Below w.heap.size w w' := by
  obtain ⟨w1, hw1, hB1, hsz, hb0⟩ := box0 w 31 (.int .i64 0) (.int .i64 0) (.string ⟨#[]⟩) (.slice none 0 0)
  obtain ⟨e0, e1, e2, e3⟩ := block4 hb0
  have fz := free4 hb0
  have hr1 := hr.below hB1
  have HLC := Lib.hid (len_calls l h b w1 _ hr1)
  by_cases hneg : i < 0
  · have hz : nthV l i = (V.zero, 5) := by unfold nthV; rw [if_neg (by omega)]
    rw [hz]
    have h2 : decide (i < 0) = true := by simpa using hneg
    clear hb0 hr hr1
    go_enter Tryd.func15, Tryd.ntmps15
    go_wp2_with fail
    refine bodyPost_ret (v := .tuple #[.agg #[.int .i64 0, .int .i64 0, .string ⟨#[]⟩, .slice none 0 0], .int .i64 5]) (by simp [results, Tryd.results15, go_sem, e0, e1, e2, e3]) rfl ⟨_, rfl, zero_is _ _, ?_⟩
    repeat refine Below.setCell ?_ (by simp) _
    exact hB1
  · have hnn : 0 ≤ i := by omega
    obtain ⟨j, rfl⟩ : ∃ j : Nat, i = (j : Int) := ⟨i.toNat, by omega⟩
    have h2 : decide ((j : Int) < 0) = false := by simp
    have HB0 := Lib.hid hb0
    by_cases hj : j < l.length
    · have hz : nthV l (j : Int) = (itemAt l j, 0) := by unfold nthV; rw [if_pos (by omega)]; simp
      rw [hz]
      obtain ⟨hsb, _, hll, ⟨rfl, _⟩ | ⟨n, u, hc0, hu, hn, hd, _⟩⟩ := hr1
      · simp at hj
      · subst hn
        have hj2 : (j : Int) < ((N.items n).length : Int) := by omega
        have hj3 : ¬ ((N.items n).length : Int) ≤ (j : Int) := by omega
        have HJ := Lib.hid hj
        have HU := Lib.hid hu
        have HD := Lib.hid hd
        have hbl : b < w1.heap.size := World.block_lt_of_cell? w1 _ hc0
        obtain ⟨t, x, rfl⟩ := hu.form
        clear hb0 hr hd hj hu e0 e1 e2 e3 fz hz hneg
        go_enter Tryd.func15, Tryd.ntmps15
        go_wp2_with (first | (go_at_call 24; refine HLC.out.mono ?_; rintro e w2 ⟨rfl, hb2⟩; have hc2 := cellB hb2 hc0; have HU2 := Lib.hid (HU.out.below hb2); clear hc0))
        have HL2 := Lib.hid hll
        clear hll HLC
        have hd3 : decide ((N.items n).length ≤ j) = false := by have := HJ.out; simp; omega
        try rw [hd3]
        clear hd3
        go_loopg [1, 6] h (fun g vj vn wr => ∃ (k : N) (p : Nat), vj = .int .i64 p ∧ p < (N.items k).length ∧ Hid (Dn g k) ∧ Hid (IsN wr S k vn) ∧ Hid (itemAt (N.items k) p = itemAt (N.items n) j) ∧ Hid ((N.items k).length ≤ 65536) ∧ Below w1.heap.size w1 wr)
        case atStart => exact ⟨n, j, rfl, HJ.out, HD, HU2, Lib.hid rfl, HL2, hb2⟩
        case round =>
          obtain ⟨k, p, rfl, hp, HDk, HUk, HI, HLk, hf⟩ := hrel
          have hb6 := below_then hB1 hB1.size hf
          have hk0 := blockB hf HB0.out
          cases k with
          | leaf m =>
            obtain ⟨A, cap, rfl, hcap, hA⟩ := HUk.out.leaf_eq
            simp only [N.items] at hp
            obtain ⟨ad, A1, cap1, rfl, hla', hbd, f0, f1, f2, f3, hcap1, hLA⟩ := hA.at p hp
            have hX := IsV.mk hbd hcap1 hLA
            have HC := Lib.hid (own_calls _ _ _ _ hX)
            have hp2 : (p : Int) < (m.length : Int) := by omega
            have HK0 := Lib.hid hk0
            clear hA hX hk0
            go_wp2_with (first | (go_at_call 48; refine HC.out.mono ?_; rintro e w3 ⟨v, rfl, hv, hb3⟩; obtain ⟨hbv, A2, cap2, rfl, hc2, hLA2⟩ := hv.eq; have hk3 := blockB hb3 HK0.out; obtain ⟨e0, e1, e2, e3⟩ := block4 hk3; have fz := free4 hk3; clear hk3 hv))
            have hx : itemAt m p = itemAt (N.items n) j := HI.out
            rw [← hx]
            refine bodyPost_ret (v := .tuple #[.agg #[.int .i64 (itemAt m p).kind, .int .i64 (itemAt m p).num, .string (itemAt m p).text, .slice A2 (itemAt m p).items.length cap2], .int .i64 0]) (by simp [results, Tryd.results15, go_sem, e0, e1, e2, e3]) rfl ⟨_, rfl, ?_, ?_⟩
            · have hn : ¬ (fun b => wr.heap.size ≤ b) w.heap.size := fun (h' : wr.heap.size ≤ w.heap.size) => by have := hf.size; omega
              refine IsV.mk hbv hc2 (hLA2.keep (Keeps.trans (S1 := fun b => wr.heap.size ≤ b) ?_ (Keeps.weak fun b (h : wr.heap.size ≤ b) => show w.heap.size ≤ b by have := hb6.size; omega)))
              repeat refine Keeps.set_after ?_ hn _
              exact Keeps.refl _ _
            · repeat refine Below.setCell ?_ (by simp) _
              exact below_then hb6 hb6.size hb3
          | branch ks =>
            obtain ⟨b1, rfl, hB⟩ := HUk.out.branch_eq
            have hB' := Lib.hid hB
            obtain ⟨A, cA, B, cB, hs, c0, hA, c1, hB1', hk, hu'⟩ := hB
            have hb1 : b1 < wr.heap.size := World.block_lt_of_cell? wr _ c0
            simp only [N.items] at hp
            have hdo := HDk.out.ok.branch
            have hks : ks.length ≤ 65536 := by have := hdo.2.1; omega
            have hml : (N.flat ks).length ≤ 65536 := HLk.out
            have HC := Lib.hid (at_calls ks b1 p wr _ hB'.out hp (by omega) hks)
            have HKC := Lib.hid hk
            clear hk hu' hdo hml c1 hB1'
            go_wp2_with (first | (go_at_call 49; refine HC.out.mono ?_; rintro e w3 ⟨q, p', rfl, hq, hpq, hp', hb3⟩; obtain ⟨hsA, u', hu', hcu⟩ := HKC.out.at q hq; rw [Nat.zero_add] at hcu; have hcu' := cellB hb3 hcu; have hc0' := cellB hb3 c0; have hab := World.block_lt_of_cell? w3 _ hcu'; have hqi : (q : Int) < (ks.length : Int) := (by omega); have HU' := Lib.hid hu'; have HQ := Lib.hid hpq; clear hu' hpq hcu c0))
            go_roundg (gk - 1)
            case measure => obtain ⟨g, hg⟩ := HDk.out.height; omega
            case rel =>
              obtain ⟨g, hg⟩ := HDk.out.height
              subst hg
              refine ⟨kidAt ks q, p', rfl, hp', Lib.hid (HDk.out.kid q hq), Lib.hid (HU'.out.below hb3), Lib.hid ?_, Lib.hid ?_, below_then hf hf.size hb3⟩
              · rw [← HI.out, N.items, ← HQ.out, itemAt_flat hq hp']
              · have h1 := HLk.out
                rw [N.items, flat_split hq, List.length_append, List.length_append] at h1
                omega
    · have hz : nthV l (j : Int) = (V.zero, 5) := by unfold nthV; rw [if_neg (by omega)]
      rw [hz]
      have hj2 : ¬ (j : Int) < (l.length : Int) := by omega
      have hj3 : (l.length : Int) ≤ (j : Int) := by omega
      clear hb0 hr hr1 e0 e1 e2 e3 fz hz hneg hj
      go_enter Tryd.func15, Tryd.ntmps15
      go_wp2_with (first | (go_at_call 24; refine HLC.out.mono ?_; rintro e w2 ⟨rfl, hb2⟩; have hk3 := blockB hb2 HB0.out; obtain ⟨e0, e1, e2, e3⟩ := block4 hk3; have fz := free4 hk3; clear hk3))
      refine bodyPost_ret (v := .tuple #[.agg #[.int .i64 0, .int .i64 0, .string ⟨#[]⟩, .slice none 0 0], .int .i64 5]) (by simp [results, Tryd.results15, go_sem, e0, e1, e2, e3]) rfl ⟨_, rfl, zero_is _ _, ?_⟩
      repeat refine Below.setCell ?_ (by simp) _
      exact below_then hB1 hB1.size hb2
end Go.Proofs.YtaeldfnihocljaaDoor
