/- Vectors of lists, their items. -/
import Derived.Test.YtaeldfnihocljaaDoorRrbC
import Derived.Test.YtaeldfnihocljaaDoorValG
import Derived.Deep.LoopGhost
set_option linter.unusedVariables false
set_option linter.unusedSimpArgs false
namespace Go.Proofs.YtaeldfnihocljaaDoor
open Go.RowKit
attribute [local go_sem] lt_succ_of methLeaf methBranch

/-- What Of answers. -/
theorem of_calls (l : List V) (vl : Value) (w : World) (S : Nat → Prop) (hl : IsS w S l vl) (hT : Lib.Utf8Tabs 0 1 w) :
    Calls Tryd.prog 11 #[vl] w fun e w' => ∃ p, e = .returned (.tuple #[p, .int .i64 (listE l)]) ∧ ((listE l ≠ 0 ∧ p = .pointer none) ∨ (listE l = 0 ∧ ∃ h b, p = .pointer (some ⟨b, 0, none⟩) ∧ IsR w' (fun b => w.heap.size ≤ b) l h b)) ∧ Below w.heap.size w w' := by
  have HV := Lib.hid (values_calls l vl w S hl hT)
  have HL := Lib.hid hl
  obtain ⟨A, cA, rfl, hcA, hla, hA⟩ := hl
  by_cases h0 : listE l = 0
  · have hle : l.length ≤ 65536 := by
      unfold listE at h0
      split at h0
      · omega
      · omega
    have HE := Lib.hid h0
    obtain ⟨E, hE⟩ : ∃ E, listE l = E := ⟨_, rfl⟩
    rw [hE] at HV HE h0 ⊢
    subst h0
    clear hA hT
    go_enter Tryd.func11, Tryd.ntmps11
    go_wp2_with (first | (go_at_call 42; refine HV.out.mono ?_; rintro e w2 ⟨rfl, hb2⟩; have HL2 := Lib.hid (HL.out.below hb2)) | (go_at_call 44; refine (owns_calls l _ _ S HL2.out).mono ?_; rintro e w3 ⟨v, rfl, hv, hb3⟩; obtain ⟨A3, c3, rfl, hc3, hl3, hA3⟩ := hv; have HA3 := Lib.hid hA3; have hb4 := below_then hb2 hb2.size hb3; clear hA3) | (go_at_call 43; refine (build_calls l A3 c3 w3 _ hc3 hle HA3.out).mono ?_; rintro e w5 ⟨h, b, rfl, hr, hb5⟩; have HR := Lib.hid hr; clear hr))
    go_ret2
    exact ⟨_, rfl, .inr ⟨by trivial, h, b, rfl, HR.out.keep (Keeps.weak fun b hb => by
      rcases hb with hb | hb
      · exact Nat.le_trans hb2.size hb.1
      · exact Nat.le_trans hb4.size hb)⟩, below_then hb4 hb4.size hb5⟩
  · have h1 : (listE l != 0) = true := by simpa using h0
    have h2 : (listE l == 0) = false := by simpa using h0
    have HN := Lib.hid h0
    obtain ⟨E, hE⟩ : ∃ E, listE l = E := ⟨_, rfl⟩
    rw [hE] at HV HN h0 h1 h2 ⊢
    clear hA hT
    go_enter Tryd.func11, Tryd.ntmps11
    go_wp2_with (first | (go_at_call 42; refine HV.out.mono ?_; rintro e w2 ⟨rfl, hb2⟩))
    go_ret2
    exact ⟨_, rfl, .inl ⟨HN.out, rfl⟩, hb2⟩
theorem len_nil_calls (w : World) : Calls Tryd.prog 24 #[.pointer none] w fun e w' => e = .returned (.int .i64 0) ∧ Below w.heap.size w w' := by
  go_enter Tryd.func24, Tryd.ntmps24
  go_wp2_with fail
  go_ret
  exact ⟨rfl, Below.refl _ _⟩
theorem len_calls (l : List V) (h b : Nat) (w : World) (S : Nat → Prop) (hr : IsR w S l h b) :
    Calls Tryd.prog 24 #[.pointer (some ⟨b, 0, none⟩)] w fun e w' => e = .returned (.int .i64 l.length) ∧ Below w.heap.size w w' := by
  have hb := hr.at
  obtain ⟨_, _, hl, ⟨rfl, rfl, h0⟩ | ⟨n, u, h0, hu, hn, hd, _⟩⟩ := hr
  · simp only [List.length_nil]
    go_enter Tryd.func24, Tryd.ntmps24
    go_wp2_with fail
    go_ret
    exact ⟨rfl, Below.refl _ _⟩
  · have hok := hd.ok
    cases n with
    | leaf m =>
      obtain ⟨A, cap, rfl, hc, hA⟩ := hu.leaf_eq
      simp only [N.items] at hn
      subst hn
      clear hA hu hok hd
      go_enter Tryd.func24, Tryd.ntmps24
      go_wp2_with (first | (go_at_call 106; refine (leafsize_calls m A cap w).mono ?_; rintro e w2 ⟨rfl, rfl⟩))
      go_ret
      exact ⟨rfl, Below.refl _ _⟩
    | branch ks =>
      obtain ⟨b1, rfl, hB⟩ := hu.branch_eq
      obtain ⟨hn0, h32, _⟩ := hok.branch
      simp only [N.items] at hn
      subst hn
      have HC := Lib.hid (branchsize_calls ks b1 w _ hB (List.length_pos_iff.2 hn0) (by omega))
      clear hB hu hok hd hn0 h32
      go_enter Tryd.func24, Tryd.ntmps24
      go_wp2_with (first | (go_at_call 105; refine HC.out.mono ?_; rintro e w2 ⟨rfl, hb2⟩))
      go_ret
      exact ⟨rfl, hb2⟩
end Go.Proofs.YtaeldfnihocljaaDoor
