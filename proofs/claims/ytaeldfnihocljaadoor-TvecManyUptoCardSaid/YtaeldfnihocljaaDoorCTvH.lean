/- Transients: sealed. -/
import Derived.Test.YtaeldfnihocljaaDoorCTvE

set_option linter.unusedVariables false
set_option linter.unusedSimpArgs false
namespace Go.Proofs.YtaeldfnihocljaaDoor
open Go.RowKit
attribute [local go_sem] lt_succ_of

theorem IsTr.shut {w : World} {R : Nat → Prop} {k : Nat} {x : Tr} (hx : IsTr w R k x) : IsTr (w.setCell ⟨x.t, 0, none⟩ (.bool false)) R k { x with op := false } := by
  have hfree : ¬ (fun b => ¬ x.own b ∧ ¬ R b) x.t := fun h => h.1 (.inl rfl)
  refine ⟨?_, hx.vec.keep (Keeps.set hfree _), hx.wait.keep (Keeps.set hfree _) fun k hk => Below.heap_setCell _ _ _ _ (fun e => hx.apart (hk.trans (congrArg some e))), hx.len, hx.small, hx.right, hx.apart, hx.free, hx.high⟩
  have := blockset hx.blk 0 (.bool false)
  simpa using this
theorem tseal_calls (w : World) (R : Nat → Prop) (x : Tr) (hx : IsTr w R 32 x) (ho : x.op = true) (hT : Lib.Utf8Tabs 0 1 w) (hR : ∀ b, R b → b < w.heap.size) :
    Calls Tryd.prog 36 #[.pointer (some ⟨x.t, 0, none⟩)] w fun e w' => ∃ x', e = .returned (.tuple #[.pointer (some ⟨x'.b, 0, none⟩), .int .i64 0]) ∧ But x.own w w' ∧ IsTr w' R 0 x' ∧ x'.t = x.t ∧ x'.op = false ∧ x'.m = x.all ∧ x'.wt = [] ∧ ∀ b, x'.own b → x.own b := by
  obtain ⟨c0, c1, c2, hl, hfr⟩ := hx.cells
  rw [ho] at c0
  have HX := Lib.hid hx
  have hS := sealed_calls w R 32 x hx
  rw [ho] at hS
  have HS := Lib.hid hS
  have HF := Lib.hid (flush_calls w R x hx hT hR)
  clear hx ho hS hT hR
  go_enter Tryd.func36, Tryd.ntmps36
  go_wp2_with (first
    | (go_at_call 59; refine HS.out.mono ?_; rintro e w2 ⟨rfl, rfl⟩)
    | (go_at_call 60; refine HF.out.mono ?_; rintro e w3 ⟨rfl, hb3, x', hx', ht', ho', hm', hw', hown'⟩; obtain ⟨d0, d1, d2, dl, dfr⟩ := hx'.cells; rw [ht'] at d0 d1 d2 dl dfr; have HX' := Lib.hid (And.intro hx' (And.intro ht' (And.intro hm' (And.intro hw' hown')))); have HB3 := Lib.hid hb3; clear hx' ht' ho' hm' hw' hown' hb3))
  go_ret2
  obtain ⟨hx', ht', hm', hw', hown'⟩ := HX'.out
  refine ⟨{ x' with op := false }, rfl, HB3.out.set (.inr (.inl rfl)) _, ?_, ht', rfl, hm', hw', hown'⟩
  have h9 := hx'.shut
  rwa [show (⟨x'.t, 0, none⟩ : Addr) = ⟨x.t, 0, none⟩ by rw [ht']] at h9
end Go.Proofs.YtaeldfnihocljaaDoor
