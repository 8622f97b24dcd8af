/- Transients: begun, asked how many items, one of them. -/
import Derived.Test.YtaeldfnihocljaaDoorCTv

set_option linter.unusedVariables false
set_option linter.unusedSimpArgs false
namespace Go.Proofs.YtaeldfnihocljaaDoor
open Go.RowKit
attribute [local go_sem] lt_succ_of

theorem begin_calls (l : List V) (h b : Nat) (w : World) (R : Nat → Prop) (hr : IsR w (fun b => ¬ R b) l h b) (hR : ∀ b, R b → b < w.heap.size) (h2w : 2 ≤ w.heap.size) :
    Calls Tryd.prog 34 #[.pointer (some ⟨b, 0, none⟩)] w fun e w' => e = .returned (.pointer (some ⟨w.heap.size, 0, none⟩)) ∧ IsTr w' R 0 ⟨true, l, h, b, [], w.heap.size, .slice none 0 0⟩ ∧ Below w.heap.size w w' := by
  have HF := Lib.hid (IsTr.fresh hr hR h2w)
  have hb := hr.at
  clear hr hR
  go_enter Tryd.func34, Tryd.ntmps34
  go_wp2_with fail
  go_ret
  exact ⟨rfl, HF.out, (Below.refl _ _).alloc (Nat.le_refl _) _⟩
theorem begin_nil_calls (w : World) (R : Nat → Prop) (hR : ∀ b, R b → b < w.heap.size) (h2w : 2 ≤ w.heap.size) :
    Calls Tryd.prog 34 #[.pointer none] w fun e w' => ∃ x, e = .returned (.pointer (some ⟨x.t, 0, none⟩)) ∧ IsTr w' R 0 x ∧ x.op = true ∧ x.all = [] ∧ w.heap.size ≤ x.t ∧ Below w.heap.size w w' := by
  have HR := Lib.hid hR
  clear hR
  go_enter Tryd.func34, Tryd.ntmps34
  go_wp2_with (go_at_call 31; refine (new_calls _).mono ?_; rintro e w2 ⟨b, rfl, hb, hb2⟩; have hbl := hb.at; have HF := Lib.hid (IsTr.fresh (R := R) (hb.keep (Keeps.weak fun b h1 h2 => by have := HR.out b h2; omega)) (fun b h => Nat.lt_of_lt_of_le (HR.out b h) hb2.size) (Nat.le_trans h2w hb2.size)); clear hb)
  go_ret
  exact ⟨_, rfl, HF.out, rfl, rfl, hb2.size, hb2.alloc hb2.size _⟩
theorem sealed_calls (w : World) (R : Nat → Prop) (k : Nat) (x : Tr) (hx : IsTr w R k x) :
    Calls Tryd.prog 59 #[.pointer (some ⟨x.t, 0, none⟩)] w fun e w' => e = .returned (.bool (!x.op)) ∧ w' = w := by
  obtain ⟨c0, c1, c2, hl, _⟩ := hx.cells
  clear hx
  go_enter Tryd.func59, Tryd.ntmps59
  go_wp2_with fail
  go_ret
  exact ⟨by first | rfl | simp, rfl⟩
theorem sealed_nil_calls (w : World) : Calls Tryd.prog 59 #[.pointer none] w fun e w' => e = .returned (.bool true) ∧ w' = w := by
  go_enter Tryd.func59, Tryd.ntmps59
  go_wp2_with fail
  go_ret
  exact ⟨rfl, rfl⟩
theorem size_calls (w : World) (R : Nat → Prop) (k : Nat) (x : Tr) (hx : IsTr w R k x) :
    Calls Tryd.prog 61 #[.pointer (some ⟨x.t, 0, none⟩)] w fun e w' => e = .returned (.int .i64 (x.all.length : Int)) ∧ Below w.heap.size w w' := by
  have HX := Lib.hid hx
  obtain ⟨c0, c1, c2, hl, _⟩ := hx.cells
  obtain ⟨A, cap, hv, hcap⟩ := hx.form
  have hsm := hx.small
  have hall : x.all.length = x.m.length + x.wt.length := List.length_append
  rw [hall] at hsm ⊢
  have HL := Lib.hid (len_q x.m x.h x.b w _ hx.vec)
  have HL2 := Lib.hid fun (n : Nat) => len_q x.m x.h x.b (w.drewN n) _ (hx.vec.below (below_drewN w n))
  have i1 : IntKind.i64.wrap ((x.m.length : Int) + (x.wt.length : Int)) = ((x.m.length + x.wt.length : Nat) : Int) := by rw [IntWalk.i64_in _ (by omega)]; omega
  rw [hv] at c2
  clear hx hall
  go_enter Tryd.func61, Tryd.ntmps61
  go_wp2_with fail
  go_quiet ((go_at_call 24; exact Calls.quiet_of (HL2.out _)))
  go_wp2_with fail
  go_ret
  exact ⟨by first | rfl | (congr 1), below_drewN _ _⟩
theorem tlen_calls (w : World) (R : Nat → Prop) (k : Nat) (x : Tr) (hx : IsTr w R k x) :
    Calls Tryd.prog 40 #[.pointer (some ⟨x.t, 0, none⟩)] w fun e w' => e = .returned (.tuple #[.int .i64 (if x.op = true then (x.all.length : Int) else 0), .int .i64 (if x.op = true then 0 else 7)]) ∧ Below w.heap.size w w' := by
  have HS := Lib.hid (sealed_calls w R k x hx)
  have HZ := Lib.hid (size_calls w R k x hx)
  clear hx
  cases ho : x.op with
  | true =>
    rw [ho] at HS
    simp only [if_true]
    clear ho
    go_enter Tryd.func40, Tryd.ntmps40
    go_wp2_with (first | (go_at_call 59; refine HS.out.mono ?_; rintro e w2 ⟨rfl, rfl⟩) | (go_at_call 61; refine HZ.out.mono ?_; rintro e w3 ⟨rfl, hb3⟩))
    go_ret2
    exact ⟨rfl, hb3⟩
  | false =>
    rw [ho] at HS
    clear ho
    go_enter Tryd.func40, Tryd.ntmps40
    go_wp2_with (first | (go_at_call 59; refine HS.out.mono ?_; rintro e w2 ⟨rfl, rfl⟩))
    go_ret2
    exact ⟨rfl, Below.refl _ _⟩
theorem tlen_nil_calls (w : World) : Calls Tryd.prog 40 #[.pointer none] w fun e w' => e = .returned (.tuple #[.int .i64 0, .int .i64 7]) ∧ Below w.heap.size w w' := by
  go_enter Tryd.func40, Tryd.ntmps40
  go_wp2_with (first | (go_at_call 59; refine (sealed_nil_calls _).mono ?_; rintro e w2 ⟨rfl, rfl⟩))
  go_ret2
  exact ⟨rfl, Below.refl _ _⟩
end Go.Proofs.YtaeldfnihocljaaDoor
