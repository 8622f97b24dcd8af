/- Parts and trees: how many items they have; trees over fingers. -/
import Derived.Test.YtjjbhnkplbjfeaaDoorProg
import Derived.Deep.QuietTactic
import Derived.BigQuiet
import Derived.StillTailTactics
import Derived.Test.YtjjbhnkplbjfeaaDoorCFnB

set_option linter.unusedVariables false
set_option linter.unusedSimpArgs false
namespace Go.Proofs.YtjjbhnkplbjfeaaDoor
open Go.RowKit
attribute [local go_sem] lt_succ_of

theorem methItem (a b c d : Value) (w : World) : (method 287 103 (.agg #[a, b, c, d]) "spinney/finger.size").run Tryd.prog w = .ok (150, .agg #[a, b, c, d]) w := by kernel_rfl
theorem methNode (a b : Value) (w : World) : (method 287 137 (.agg #[a, b]) "spinney/finger.size").run Tryd.prog w = .ok (151, .agg #[a, b]) w := by kernel_rfl
attribute [local go_sem] methItem methNode
theorem itemsize_calls (a b c d : Value) (w : World) : Calls Tryd.prog 150 #[.agg #[a, b, c, d]] w fun e w' => e = .returned (.int .i64 1) ∧ Below w.heap.size w w' := by
  go_enter Tryd.func150, Tryd.ntmps150
  go_wp2_with fail
  go_ret
  exact ⟨rfl, (Below.refl _ _).alloc (Nat.le_refl _) _⟩
theorem nodesize_calls (n : Int) (s : Value) (w : World) : Calls Tryd.prog 151 #[.agg #[.int .i64 n, s]] w fun e w' => e = .returned (.int .i64 n) ∧ Below w.heap.size w w' := by
  go_enter Tryd.func151, Tryd.ntmps151
  go_wp2_with fail
  go_ret
  exact ⟨rfl, (Below.refl _ _).alloc (Nat.le_refl _) _⟩
theorem treesize_calls (t : Ft) (p : Option Addr) (w : World) (S : Nat → Prop) (h : IsF w S t p) : Calls Tryd.prog 79 #[.pointer p] w fun e w' => e = .returned (.int .i64 (t.items.length : Nat)) ∧ w' = w := by
  cases t with
  | nil =>
    obtain rfl := h.nil_eq
    go_enter Tryd.func79, Tryd.ntmps79
    go_wp2_with fail
    go_ret
    exact ⟨rfl, rfl⟩
  | mk l m r =>
    obtain ⟨b, vl, vr, q, rfl, hs, c0, c1, c2, c3, _⟩ := h.eq
    have hb := World.block_lt_of_cell? w _ c0
    obtain ⟨n, hn⟩ : ∃ n : Int, ((Ft.items (.mk l m r)).length : Int) = n := ⟨_, rfl⟩
    rw [hn] at c0 ⊢
    clear hn
    go_enter Tryd.func79, Tryd.ntmps79
    go_wp2_with fail
    go_ret
    exact ⟨rfl, rfl⟩
theorem alone_calls (l r : List Pt) (m : Ft) (b : Nat) (w : World) (S : Nat → Prop) (h : IsF w S (.mk l m r) (some ⟨b, 0, none⟩)) : Calls Tryd.prog 94 #[.pointer (some ⟨b, 0, none⟩)] w fun e w' => e = .returned (.bool (decide (r.length = 0))) ∧ w' = w := by
  obtain ⟨b', vl, vr, q, e, hs, c0, c1, c2, c3, h1, ⟨A, cap, rfl, hc, _⟩, _⟩ := h.eq
  obtain rfl : b = b' := by injection e with e; injection e
  have hb := World.block_lt_of_cell? w _ c0
  clear h h1 e c0
  by_cases hr : r.length = 0
  · have h1 : decide (r.length = 0) = true := by simpa using hr
    rw [h1]
    rw [hr] at c2
    clear h1 hr hc
    go_enter Tryd.func94, Tryd.ntmps94
    go_wp2_with fail
    go_ret
    exact ⟨rfl, rfl⟩
  · have h1 : decide (r.length = 0) = false := by simpa using hr
    rw [h1]
    have h2 : ((r.length : Int) == 0) = false := beq_eq_false_iff_ne.2 (by omega)
    clear h1 hr hc
    go_enter Tryd.func94, Tryd.ntmps94
    go_wp2_with fail
    go_ret
    exact ⟨rfl, rfl⟩
set_option maxRecDepth 100000 in
set_option maxHeartbeats 4000000 in
theorem total_calls (ks : List Pt) (vl : Value) (w : World) (S : Nat → Prop) (h : IsPs w S ks vl) (hm : (Pt.flat ks).length ≤ 4294967296) (hk : ks.length ≤ 4294967296) :
    Calls Tryd.prog 103 #[vl] w fun e w' => e = .returned (.int .i64 ((Pt.flat ks).length : Nat)) ∧ Below w.heap.size w w' := by
  obtain ⟨A, cap, rfl, hc, hA⟩ := h
  have HA := Lib.hid hA
  have HM := Lib.hid hm
  have HT := Lib.hid (aheadP_all ks)
  clear hA hm
  go_enter Tryd.func103, Tryd.ntmps103
  go_wp2_with fail
  go_loopw [3, 8] (fun vn vi wr => ∃ i : Nat, vi = .int .i64 i ∧ vn = .int .i64 (aheadP ks i : Nat) ∧ i ≤ ks.length ∧ Below w.heap.size w wr) (fun _ v _ => ks.length - (intOf v).toNat)
  case atStart => exact ⟨0, rfl, by rw [aheadP_zero]; rfl, by omega, Below.refl _ _⟩
  case round =>
    obtain ⟨i, rfl, rfl, hi, hf⟩ := hrel
    by_cases hlt : i < ks.length
    · obtain ⟨ad, rfl, hPC⟩ := HA.out.resolve_left (fun e => by rw [e] at hlt; simp at hlt)
      obtain ⟨hsA, u, hu, hcu⟩ := (hPC.keep (Keeps.below hf)).at i hlt
      rw [Nat.zero_add] at hcu
      have hAl := World.block_lt_of_cell? wr _ hcu
      have hup := aheadP_succ hlt
      have hle := aheadP_le ks (i + 1)
      have hm' := HM.out
      clear hPC
      cases hkd : ptAt ks i with
      | item x =>
        rw [hkd] at hu hup
        obtain ⟨A1, c1, rfl, _⟩ := hu.item_eq
        rw [pitem_items, List.length_singleton] at hup
        have h1 : (aheadP ks i : Int) + 1 ≤ 4294967296 := by omega
        have HS : Hid ((aheadP ks i : Int) + 1 = (aheadP ks (i + 1) : Nat)) := Lib.hid (by omega)
        clear hup hle hm' hu hkd
        go_wp2_with (go_at_call 150; refine (itemsize_calls _ _ _ _ _).mono ?_; rintro e w2 ⟨rfl, hb2⟩; have hf2 := below_then hf hf.size hb2)
        go_roundw
        case rel => exact ⟨i + 1, by go_num, by rw [HS.out], by omega, hf2⟩
        case measure => simp [intOf]; omega
      | node kk =>
        rw [hkd] at hu hup
        obtain ⟨A1, c1, rfl, _⟩ := hu.node_eq
        rw [pnode_items] at hup
        have h1 : (aheadP ks i : Int) + ((Pt.flat kk).length : Int) ≤ 4294967296 := by omega
        have HS : Hid ((aheadP ks i : Int) + ((Pt.flat kk).length : Int) = (aheadP ks (i + 1) : Nat)) := Lib.hid (by omega)
        clear hup hle hm' hu hkd
        go_wp2_with (go_at_call 151; refine (nodesize_calls _ _ _).mono ?_; rintro e w2 ⟨rfl, hb2⟩; have hf2 := below_then hf hf.size hb2)
        go_roundw
        case rel => exact ⟨i + 1, by go_num, by rw [HS.out], by omega, hf2⟩
        case measure => simp [intOf]; omega
    · obtain rfl : i = ks.length := by omega
      go_wp2_with fail
      go_ret
      exact ⟨by rw [HT.out]; rfl, hf⟩
end Go.Proofs.YtjjbhnkplbjfeaaDoor
