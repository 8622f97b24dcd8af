/- Transients: what a sealed one answers; an item of an open one. -/
import Derived.Deep.RegionWith
import Derived.Test.YtaeldfnihocljaaDoorCTvA
import Derived.Test.YtaeldfnihocljaaDoorCRefB

set_option linter.unusedVariables false
set_option linter.unusedSimpArgs false
namespace Go.Proofs.YtaeldfnihocljaaDoor
open Go.RowKit
attribute [local go_sem] lt_succ_of

/-- A pointer that is asked whether it is sealed and says yes. -/
def Shut (w : World) (p : Value) : Prop := Calls Tryd.prog 59 #[p] w fun e w' => e = .returned (.bool true) ∧ w' = w
theorem shut_len (p : Value) (w : World) (hs : Shut w p) : Calls Tryd.prog 40 #[p] w fun e w' => e = .returned (.tuple #[.int .i64 0, .int .i64 7]) ∧ Below w.heap.size w w' := by
  have HS := Lib.hid hs
  clear hs
  unfold Shut at HS
  go_enter Tryd.func40, Tryd.ntmps40
  go_wp2_with (go_at_call 59; refine HS.out.mono ?_; rintro e w2 ⟨rfl, rfl⟩)
  go_ret2
  exact ⟨rfl, Below.refl _ _⟩
theorem shut_nth (p : Value) (i : Int) (w : World) (hs : ∀ w2, w.heap.size ≤ w2.heap.size → Below w.heap.size w w2 → Shut w2 p) : Calls Tryd.prog 38 #[p, .int .i64 i] w fun e w' => ∃ v, e = .returned (.tuple #[v, .int .i64 7]) ∧ Below w.heap.size w w' := by
  obtain ⟨w1, hw1, hB1, hsz, hb0⟩ := box0 w 31 (.int .i64 0) (.int .i64 0) (.string ⟨#[]⟩) (.slice none 0 0)
  obtain ⟨e0, e1, e2, e3⟩ := block4 hb0
  have fz := free4 hb0
  have HS := Lib.hid (hs w1 hB1.size hB1)
  clear hs hb0
  unfold Shut at HS
  go_enter Tryd.func38, Tryd.ntmps38
  go_wp2_with (go_at_call 59; refine HS.out.mono ?_; rintro e w2 ⟨rfl, rfl⟩)
  refine bodyPost_ret (v := .tuple #[.agg #[.int .i64 0, .int .i64 0, .string ⟨#[]⟩, .slice none 0 0], .int .i64 7]) (by simp [results, Tryd.results38, go_sem, e0, e1, e2, e3]) rfl ⟨_, rfl, ?_⟩
  repeat refine Below.setCell ?_ (by simp) _
  exact hB1
theorem shut_pop (p : Value) (w : World) (hs : ∀ w2, w.heap.size ≤ w2.heap.size → Below w.heap.size w w2 → Shut w2 p) : Calls Tryd.prog 39 #[p] w fun e w' => ∃ v, e = .returned (.tuple #[v, .int .i64 7]) ∧ Below w.heap.size w w' := by
  obtain ⟨w1, hw1, hB1, hsz, hb0⟩ := box0 w 31 (.int .i64 0) (.int .i64 0) (.string ⟨#[]⟩) (.slice none 0 0)
  obtain ⟨e0, e1, e2, e3⟩ := block4 hb0
  have fz := free4 hb0
  have HS := Lib.hid (hs w1 hB1.size hB1)
  clear hs hb0
  unfold Shut at HS
  go_enter Tryd.func39, Tryd.ntmps39
  go_wp2_with (go_at_call 59; refine HS.out.mono ?_; rintro e w2 ⟨rfl, rfl⟩)
  refine bodyPost_ret (v := .tuple #[.agg #[.int .i64 0, .int .i64 0, .string ⟨#[]⟩, .slice none 0 0], .int .i64 7]) (by simp [results, Tryd.results39, go_sem, e0, e1, e2, e3]) rfl ⟨_, rfl, ?_⟩
  repeat refine Below.setCell ?_ (by simp) _
  exact hB1
theorem shut_set (p : Value) (i : Int) (x : V) (vx : Value) (w : World) (S : Nat → Prop) (hx : IsV w S x vx) (hs : ∀ w2, w.heap.size ≤ w2.heap.size → Below w.heap.size w w2 → Shut w2 p) : Calls Tryd.prog 41 #[p, .int .i64 i, vx] w fun e w' => e = .returned (.int .i64 7) ∧ Below w.heap.size w w' := by
  obtain ⟨hbx, Ax, cx, rfl, hcx, hAx⟩ := hx.eq
  obtain ⟨w1, hw1, hB1, hsz, hb0⟩ := box0 w 31 (.int .i64 x.kind) (.int .i64 x.num) (.string x.text) (.slice Ax x.items.length cx)
  obtain ⟨e0, e1, e2, e3⟩ := block4 hb0
  have fz := free4 hb0
  have HS := Lib.hid (hs w1 hB1.size hB1)
  clear hs
  unfold Shut at HS
  go_enter Tryd.func41, Tryd.ntmps41
  go_wp2_with (go_at_call 59; refine HS.out.mono ?_; rintro e w2 ⟨rfl, rfl⟩)
  go_ret
  exact ⟨rfl, hB1⟩
theorem shut_push (p : Value) (x : V) (vx : Value) (w : World) (S : Nat → Prop) (hx : IsV w S x vx) (hs : ∀ w2, w.heap.size ≤ w2.heap.size → Below w.heap.size w w2 → Shut w2 p) : Calls Tryd.prog 37 #[p, vx] w fun e w' => e = .returned (.int .i64 7) ∧ Below w.heap.size w w' := by
  obtain ⟨hbx, Ax, cx, rfl, hcx, hAx⟩ := hx.eq
  obtain ⟨w1, hw1, hB1, hsz, hb0⟩ := box0 w 31 (.int .i64 x.kind) (.int .i64 x.num) (.string x.text) (.slice Ax x.items.length cx)
  obtain ⟨e0, e1, e2, e3⟩ := block4 hb0
  have fz := free4 hb0
  have HS := Lib.hid (hs w1 hB1.size hB1)
  clear hs
  unfold Shut at HS
  go_enter Tryd.func37, Tryd.ntmps37
  go_wp2_with (go_at_call 59; refine HS.out.mono ?_; rintro e w2 ⟨rfl, rfl⟩)
  go_ret
  exact ⟨rfl, hB1⟩
theorem shut_seal (p : Value) (w : World) (hs : Shut w p) : Calls Tryd.prog 36 #[p] w fun e w' => e = .returned (.tuple #[.pointer none, .int .i64 7]) ∧ Below w.heap.size w w' := by
  have HS := Lib.hid hs
  clear hs
  unfold Shut at HS
  go_enter Tryd.func36, Tryd.ntmps36
  go_wp2_with (go_at_call 59; refine HS.out.mono ?_; rintro e w2 ⟨rfl, rfl⟩)
  go_ret2
  exact ⟨rfl, Below.refl _ _⟩
theorem shut_nil (w : World) : Shut w (.pointer none) := sealed_nil_calls w
theorem shut_of {w : World} {R : Nat → Prop} {k : Nat} {x : Tr} (hx : IsTr w R k x) (ho : x.op = false) : Shut w (.pointer (some ⟨x.t, 0, none⟩)) := by
  have := sealed_calls w R k x hx
  rw [ho] at this
  exact this
theorem nthV_left (l m : List V) {i : Int} (h : i < l.length) : nthV (l ++ m) i = nthV l i := by
  unfold nthV
  rw [List.length_append]
  by_cases h0 : 0 ≤ i
  · obtain ⟨j, rfl⟩ : ∃ j : Nat, i = (j : Int) := ⟨i.toNat, by omega⟩
    rw [if_pos (by omega), if_pos (by omega)]
    simp only [Int.toNat_natCast]
    rw [itemAt, itemAt, List.getD_eq_getElem?_getD, List.getD_eq_getElem?_getD, List.getElem?_append_left (by omega)]
  · rw [if_neg (by omega), if_neg (by omega)]
theorem nthV_right (l m : List V) {j : Nat} (h : l.length ≤ j) (h2 : j < l.length + m.length) : nthV (l ++ m) (j : Int) = (itemAt m (j - l.length), 0) := by
  unfold nthV
  rw [List.length_append, if_pos (by omega)]
  simp only [Int.toNat_natCast]
  rw [itemAt, itemAt, List.getD_eq_getElem?_getD, List.getD_eq_getElem?_getD, List.getElem?_append_right (by omega)]
theorem nthV_far (l : List V) {j : Nat} (h : l.length ≤ j) : nthV l (j : Int) = (V.zero, 5) := by
  unfold nthV
  rw [if_neg (by omega)]
end Go.Proofs.YtaeldfnihocljaaDoor
