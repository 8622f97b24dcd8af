/- A deque of a list. -/
import Derived.Test.YtjjbhnkplbjfeaaDoorCFnW

set_option linter.unusedVariables false
set_option linter.unusedSimpArgs false
namespace Go.Proofs.YtjjbhnkplbjfeaaDoor
open Go.RowKit
attribute [local go_sem] lt_succ_of methItem methNode asItem asNode isNode noNode fieldNode fieldItem notNil

/-- The tree of the first items. -/
def treeOf (l : List V) : Ft := (l.map Pt.item).foldl Ft.back .nil
theorem flat_items (l : List V) : Pt.flat (l.map Pt.item) = l := by
  induction l with
  | nil => simp [Pt.flat]
  | cons x l ih => rw [List.map_cons, pflat_cons, pitem_items, ih]; rfl
theorem treeOf_ok (l : List V) : Ft.Ok 0 (treeOf l) ∧ (treeOf l).items = l := by
  obtain ⟨h1, h2⟩ := foldl_ok (l := l.map Pt.item) (t := .nil) (k := 0) trivial (fun p hp => by obtain ⟨x, _, rfl⟩ := List.mem_map.1 hp; exact lev_item x)
  exact ⟨h1, by unfold treeOf; rw [h2, flat_items]; rfl⟩
theorem treeOf_take {l : List V} {i : Nat} (h : i < l.length) : treeOf (l.take (i + 1)) = (treeOf (l.take i)).back (.item (itemAt l i)) := by
  unfold treeOf
  rw [itemAt_take h, List.map_append, List.foldl_append]
  rfl
set_option maxRecDepth 100000 in
set_option maxHeartbeats 8000000 in
theorem dof_calls (l : List V) (vl : Value) (w : World) (S : Nat → Prop) (hl : IsS w S l vl) (hT : Lib.Utf8Tabs 1 2 w) :
    Calls Tryd.prog 13 #[vl] w fun e w' => ∃ p, e = .returned (.tuple #[.pointer p, .int .i64 (listE l)]) ∧ ((listE l ≠ 0 ∧ p = none) ∨ (listE l = 0 ∧ ∃ b, p = some ⟨b, 0, none⟩ ∧ IsE w' (fun b => w.heap.size ≤ b) l b)) ∧ Below w.heap.size w w' := by
  have HV := Lib.hid (values_calls l vl w S hl hT)
  have HL := Lib.hid hl
  obtain ⟨A, cA, rfl, hcA, hla, hA⟩ := hl
  by_cases h0 : listE l = 0
  · have hle : l.length ≤ 65536 := by
      unfold listE at h0
      split at h0
      · omega
      · omega
    have HE := Lib.hid h0
    obtain ⟨E, hE⟩ : ∃ E, listE l = E := ⟨_, rfl⟩
    rw [hE] at HV HE h0 ⊢
    subst h0
    clear hA hT hE
    go_enter Tryd.func13, Tryd.ntmps13
    go_wp2_with (first
      | (go_at_call 62; refine HV.out.mono ?_; rintro e w2 ⟨rfl, hb2⟩)
      | (go_at_call 63; refine (new_calls _).mono ?_; rintro e w3 ⟨rfl, hk3, hb3⟩; have HK3 := Lib.hid hk3; have hb4 := below_then hb2 hb2.size hb3; have hl3 := (Array.getElem?_eq_some_iff.1 hk3).1; clear hk3))
    go_loopw [16] (fun vi wr => ∃ (i : Nat) (q : Option Addr), vi = .int .i64 i ∧ i ≤ l.length ∧ Hid (wr.heap[w2.heap.size]? = some (.cells #[.pointer q] 99 (0, 0))) ∧ Hid (IsF wr (fun b => w2.heap.size < b) (treeOf (l.take i)) q) ∧ Below w2.heap.size w2 wr ∧ w2.heap.size < wr.heap.size) (fun v _ => l.length - (intOf v).toNat)
    case atStart => exact ⟨0, none, rfl, by omega, HK3, Lib.hid (by simp [treeOf, IsF]), hb3, hl3⟩
    case round =>
      obtain ⟨i, q, rfl, hi, hk, hq, hf, hlt0⟩ := hrel
      have hbw := below_then hb2 hb2.size hf
      by_cases hlt : i < l.length
      · obtain ⟨Aa, ca, he, _, _, hLA⟩ := HL.out.below hbw
        injection he with he1 he2 he3
        subst he1 he3
        obtain ⟨ad, A1, cap1, rfl, hla', hbd, f0, f1, f2, f3, hcap1, hLA1⟩ := hLA.at i hlt
        obtain ⟨w4, hw4, hB4, hsz4, hb40⟩ := box0 wr 33 (.int .i64 0) (.int .i64 0) (.string ⟨#[]⟩) (.slice none 0 0)
        obtain ⟨z0, z1, z2, z3⟩ := block4 hb40
        have fz := free4 hb40
        obtain ⟨w5, hw5, hk5, hs5, hot5, hB5⟩ := store_box (w := w4) hb40 (.int .i64 (itemAt l i).kind) (.int .i64 (itemAt l i).num) (.string (itemAt l i).text) (.slice A1 (itemAt l i).items.length cap1)
        have hb5 : Below wr.heap.size wr w5 := hB4.trans (hB5 _ (Nat.le_refl _))
        obtain ⟨g0, g1, g2, g3⟩ := block4 hk5
        have hkd := blockB hb5 hk.out
        have d0 := block1 hkd
        have dz := free4 hkd
        have HX := Lib.hid ((IsV.mk hbd hcap1 hLA1).below hb5)
        have HQ := Lib.hid (hq.out.below hb5)
        have HG := Lib.hid (block4 hk5)
        have HKD := Lib.hid hkd
        have ht := treeOf_ok (l.take i)
        have HTO := Lib.hid ht
        have HTT := Lib.hid (treeOf_take hlt)
        have hs0 := hb5.size
        have hl5 : w2.heap.size < w5.heap.size := by omega
        have hl6 : wr.heap.size < w5.heap.size := by omega
        have hlw : wr.heap.size < w4.heap.size := by omega
        clear hLA hLA1 hb40 hk5 hkd ht hk hq hot5
        go_wp2_with fail
        go_region_with
          (first
            | (go_at_call 65; refine (own_calls (itemAt l i) _ _ S (HX.out.keep Keeps.drew)).mono ?_; rintro e w6 ⟨v6, rfl, hv6, hb6'⟩; have hb6 := below_undrew hb6'; have d6 := cellB hb6 (block1 HKD.out); have l6 := World.block_lt_of_cell? w6 _ d6; obtain ⟨_, A6, c6, rfl, _, _⟩ := hv6.eq; have HBK := Lib.hid (back_calls (treeOf (l.take i)) (.item (itemAt l i)) 0 q _ w6 (fun b => w2.heap.size < b) (HQ.out.below hb6) (IsP.item_mk (hv6.keep (Keeps.weak fun b (hb : w5.heap.size ≤ b) => Nat.lt_of_lt_of_le hl5 hb))) HTO.out.1 (lev_item _) (by rw [HTO.out.2, pitem_items, List.length_take]; simp; omega)); clear hv6)
            | (go_at_call 64; refine HBK.out.mono ?_; rintro e w7 ⟨p7, rfl, hp7, hb7'⟩; have hb7 := below_then hb6 hb6.size hb7'; have HP7 := Lib.hid (hp7.keep (S' := fun b => w2.heap.size < b) (Keeps.weak fun b hb => (by rcases hb with ⟨hb, _⟩ | hb; exact hb; exact Nat.lt_of_lt_of_le (Nat.lt_of_lt_of_le hl5 hb6.size) hb))); have hk7 := blockB hb7 HKD.out; have dz7 := free4 hk7; have hl7 := (Array.getElem?_eq_some_iff.1 hk7).1; have d7 := block1 hk7; have HK7 := Lib.hid hk7; clear hp7 hk7))
        all_goals go_wp2_with fail
        all_goals go_roundw
        all_goals first
          | (case rel =>
              refine ⟨i + 1, p7, by go_num, by omega, Lib.hid ?_, Lib.hid ?_, ?_, ?_⟩
              · have := blockset HK7.out 0 (.pointer p7)
                simpa using this
              · rw [HTT.out]
                exact HP7.out.keep fun b hb h => ⟨h, Below.heap_setCell _ _ _ _ (fun e => by have : b = w2.heap.size := e; omega)⟩
              · exact ((hf.trans (hb5.mono hf.size)).trans (hb7.mono (Nat.le_trans hf.size hs0))).setCell (Nat.le_refl _) _
              · simpa using hl7)
          | (case measure => simp [intOf]; omega)
          | skip
      · obtain rfl : i = l.length := by omega
        rw [List.take_length] at hq
        have ht := treeOf_ok l
        have HTO := Lib.hid ht
        clear ht
        go_wp2_with fail
        go_ret2
        exact ⟨_, rfl, .inr ⟨by trivial, _, rfl, hle, _, q, hb2.size, block1 hk.out, hq.out.keep (Keeps.weak fun b hb => by have := hb2.size; omega), HTO.out.1, HTO.out.2⟩, hbw⟩
  · have h1 : (listE l != 0) = true := by simpa using h0
    have h2 : (listE l == 0) = false := by simpa using h0
    have HN := Lib.hid h0
    obtain ⟨E, hE⟩ : ∃ E, listE l = E := ⟨_, rfl⟩
    rw [hE] at HV HN h0 h1 h2 ⊢
    clear hA hT
    go_enter Tryd.func13, Tryd.ntmps13
    go_wp2_with (first | (go_at_call 62; refine HV.out.mono ?_; rintro e w2 ⟨rfl, hb2⟩))
    go_ret2
    exact ⟨none, rfl, .inl ⟨HN.out, rfl⟩, hb2⟩
end Go.Proofs.YtjjbhnkplbjfeaaDoor
