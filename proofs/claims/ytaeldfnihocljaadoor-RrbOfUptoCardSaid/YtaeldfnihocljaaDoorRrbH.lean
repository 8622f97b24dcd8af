/- The iterator From. -/
import Derived.Test.YtaeldfnihocljaaDoorRrbG
set_option linter.unusedVariables false
set_option linter.unusedSimpArgs false
namespace Go.Proofs.YtaeldfnihocljaaDoor
open Go.RowKit Go.Shelf
attribute [local go_sem] lt_succ_of methLeaf methBranch asNone asSome asLeaf asBranch

theorem drewN_zero (w : World) : w.drewN 0 = w := rfl
theorem branchsize_q (ks : List N) (b : Nat) (w : World) (S : Nat → Prop) (h : IsB w S ks b) (h0 : 0 < ks.length) (h1 : ks.length ≤ 65536) :
    Calls Tryd.prog 105 #[.pointer (some ⟨b, 0, none⟩)] w fun e w' => e = .returned (.int .i64 (N.flat ks).length) ∧ ∃ m, w' = w.drewN m := by
  obtain ⟨A, cA, B, cB, hs, c0, hA, c1, hB, hk, hu⟩ := h
  obtain ⟨hs', hc⟩ := hu (ks.length - 1) (by omega)
  rw [uptoN_last ks h0] at hc
  have hb : b < w.heap.size := World.block_lt_of_cell? w _ c0
  have h2 : IntKind.i64.wrap ((ks.length : Int) - 1) = (ks.length : Int) - 1 := IntWalk.i64_in _ (by omega)
  have h3 : (0 : Int) ≤ (ks.length : Int) - 1 := by omega
  have h4 : ((ks.length : Int) - 1).toNat = ks.length - 1 := by omega
  have h5 : (ks.length : Int) - 1 < (ks.length : Int) := by omega
  have h7 : ks.length - 1 < ks.length := by omega
  clear hk hu
  go_enter Tryd.func105, Tryd.ntmps105
  go_wp2_with fail
  go_quiet (fail)
  go_wp2_with fail
  go_ret
  exact ⟨rfl, _, rfl⟩
theorem len_q (l : List V) (h b : Nat) (w : World) (S : Nat → Prop) (hr : IsR w S l h b) :
    Calls Tryd.prog 24 #[.pointer (some ⟨b, 0, none⟩)] w fun e w' => e = .returned (.int .i64 l.length) ∧ ∃ m, w' = w.drewN m := by
  have hb := hr.at
  obtain ⟨_, _, hl, ⟨rfl, rfl, h0⟩ | ⟨n, u, h0, hu, hn, hd, _⟩⟩ := hr
  · simp only [List.length_nil]
    go_enter Tryd.func24, Tryd.ntmps24
    go_wp2_with fail
    go_ret
    exact ⟨rfl, 0, rfl⟩
  · have hok := hd.ok
    cases n with
    | leaf m =>
      obtain ⟨A, cap, rfl, hc, hA⟩ := hu.leaf_eq
      simp only [N.items] at hn
      subst hn
      clear hA hu hok hd
      go_enter Tryd.func24, Tryd.ntmps24
      go_wp2_with (first | (go_at_call 106; refine (leafsize_calls m A cap w).mono ?_; rintro e w2 ⟨rfl, rfl⟩))
      go_ret
      exact ⟨rfl, 0, rfl⟩
    | branch ks =>
      obtain ⟨b1, rfl, hB⟩ := hu.branch_eq
      obtain ⟨hn0, h32, _⟩ := hok.branch
      simp only [N.items] at hn
      subst hn
      have HC := Lib.hid (branchsize_q ks b1 w _ hB (List.length_pos_iff.2 hn0) (by omega))
      clear hB hu hok hd hn0 h32
      go_enter Tryd.func24, Tryd.ntmps24
      go_wp2_with (first | (go_at_call 105; refine HC.out.mono ?_; rintro e w2 ⟨rfl, m, rfl⟩))
      go_ret
      exact ⟨rfl, m, rfl⟩
theorem from_calls (q : Option Addr) (f : Int) (w : World) :
    Calls Tryd.prog 50 #[.pointer q, .int .i64 f] w fun e w' => e = .returned (.func (.func 65) #[] #[.pointer (some ⟨w.heap.size, 0, none⟩), .pointer (some ⟨w.heap.size + 1, 0, none⟩)]) ∧
      w'.heap[w.heap.size]? = some (.cells #[.pointer q] 23 (0, 0)) ∧ w'.heap[w.heap.size + 1]? = some (.cells #[.int .i64 f] 3 (0, 0)) ∧ Below w.heap.size w w' := by
  have hw1 : ∃ w1, (w.alloc (.cells #[.pointer q] 23)).alloc (.cells #[.int .i64 f] 3) = w1 ∧ w1.heap[w.heap.size]? = some (.cells #[.pointer q] 23 (0, 0)) ∧ w1.heap[w.heap.size + 1]? = some (.cells #[.int .i64 f] 3 (0, 0)) ∧ Below w.heap.size w w1 := by
    refine ⟨_, rfl, ?_, ?_, ((Below.refl _ _).alloc (Nat.le_refl _) _).alloc (by simp) _⟩
    · rw [Below.heap_alloc _ _ _ (by simp)]
      exact heap_alloc_new w _
    · have := heap_alloc_new (w.alloc (.cells #[.pointer q] 23)) (.cells #[.int .i64 f] 3)
      simpa using this
  obtain ⟨w1, hw1, h1, h2, h3⟩ := hw1
  have H1 := Lib.hid h1
  have H2 := Lib.hid h2
  clear h1 h2
  go_enter Tryd.func50, Tryd.ntmps50
  go_wp2_with fail
  go_ret
  exact ⟨rfl, H1.out, H2.out, h3⟩
theorem below_drewN (w : World) (n : Nat) : Below w.heap.size w (w.drewN n) := ⟨rfl, rfl, rfl, Nat.le_refl _, fun _ _ => rfl⟩
set_option maxRecDepth 100000 in
set_option maxHeartbeats 4000000 in
theorem from_each (l : List V) (h b : Nat) (f : Int) (X Y : Nat) (S : Nat → Prop) (w : World) (hX : w.heap[X]? = some (.cells #[.pointer (some ⟨b, 0, none⟩)] 23 (0, 0))) (hY : w.heap[Y]? = some (.cells #[.int .i64 f] 3 (0, 0))) (hr : IsR w S l h b)
    (hf0 : -9223372036854775808 ≤ f) (hf1 : f ≤ 9223372036854775807) : Each 65 #[.pointer (some ⟨X, 0, none⟩), .pointer (some ⟨Y, 0, none⟩)] S w.heap.size (gotL f 0 l) w := by
  intro ll J Jx W hW hJ hJx hR h0 n
  refine callsIn_wide.2 ?_
  have hX1 := blockB hW hX
  have hY1 := blockB hW hY
  have cX : W.cell? ⟨X, 0, none⟩ = some (.pointer (some ⟨b, 0, none⟩)) := by simp [World.cell?, hX1]
  have cY : W.cell? ⟨Y, 0, none⟩ = some (.int .i64 f) := by simp [World.cell?, hY1]
  have hXl : X < W.heap.size := (Array.getElem?_eq_some_iff.1 hX1).1
  have hYl : Y < W.heap.size := (Array.getElem?_eq_some_iff.1 hY1).1
  have hrW := hr.below hW
  have hl65 := hr.2.2.1
  have HLQ := Lib.hid fun (q : Nat) => len_q l h b (W.drewN q) S (hrW.below (below_drewN W q))
  have HJ := Lib.hid hJ
  have HR := Lib.hid hR
  have H0 := Lib.hid h0
  clear hJ hJx hR h0 hX1 hY1 hX hY
  simp only [List.append_toArray, List.cons_append, List.nil_append]
  by_cases hl0 : l.length = 0
  · have e2 : decide ((0 : Int) < (l.length : Int)) = false := by simpa using hl0
    have hg : gotL f 0 l = [] := by rw [List.eq_nil_of_length_eq_zero hl0]; rfl
    rw [hg] at *
    clear hrW hr
    go_enter Tryd.func65, Tryd.ntmps65
    go_wp2_with fail
    go_quiet ((go_at_call 24; exact Calls.quiet_of (HLQ.out _)))
    go_wp2_with fail
    go_end0
    exact ⟨⟨_, rfl⟩, .inl (HJ.out _ _ _ H0.out (below_drewN _ _))⟩
  · have e0 : (0 : Int) < (l.length : Int) := by omega
    have e1 : decide (0 < l.length) = true := by simp; omega
    have e2 : (0 < l.length) = True := by simp; omega
    by_cases hfl : f < (l.length : Int)
    · have e3 : decide (f < (l.length : Int)) = true := by simpa using hfl
      obtain ⟨hsb, _, _, ⟨hl1, _⟩ | ⟨nd, u, hc00, hu0, hn, hd, _⟩⟩ := hr
      · exact absurd (by rw [hl1]; rfl) hl0
      have hc0 := cellB hW hc00
      have hSB : IsN W (fun b => S b ∧ b < w.heap.size) nd u := hu0.keep (Keeps.below_to hW fun b hb hs => ⟨hs, hb⟩)
      have hbl : b < W.heap.size := World.block_lt_of_cell? W _ hc0
      obtain ⟨t, x, rfl⟩ := hu0.form
      have HU := Lib.hid hSB
      have HD := Lib.hid hd
      have HN := Lib.hid hn
      clear hu0 hd hn hSB hc00 hrW
      go_enter Tryd.func65, Tryd.ntmps65
      go_wp2_with fail
      go_quiet ((go_at_call 24; exact Calls.quiet_of (HLQ.out _)))
      go_wp2_with fail
      obtain ⟨W2, hW2⟩ : ∃ W2, W2 = W.drewN nq := ⟨_, rfl⟩
      have hB2 : Below W.heap.size W W2 := by rw [hW2]; exact below_drewN W nq
      rw [← hW2]
      have cX2 := cellB hB2 cX
      have cY2 := cellB hB2 cY
      have hc2 := cellB hB2 hc0
      have hbl2 := World.block_lt_of_cell? W2 _ hc2
      have hXl2 := World.block_lt_of_cell? W2 _ cX2
      have hYl2 := World.block_lt_of_cell? W2 _ cY2
      have hbd := hB2.drew
      clear hW2 cX cY hc0 HLQ
      have hHC : Calls Tryd.prog 66 #[.iface t x, .int .i64 f, .int .i64 0, .func (.yield ll) #[] #[]] W2.drew fun e W' => (e = .returned (.bool true) ∧ J (gotL f 0 l) W') ∨ (e = .returned (.bool false) ∧ ∃ q, q <+: gotL f 0 l ∧ Jx q W') := by
        have h := callsIn_wide.1 (each_all h nd (.iface t x) f 0 0 ll w.heap.size S J Jx (gotL f 0 l) [] W2.drew HD.out (HU.out.keep (Keeps.below hbd)) hf0 hf1 (by rw [HN.out]; omega) HJ.out HR.out (by rw [HN.out]; exact List.prefix_refl _) (HJ.out _ _ _ H0.out hbd) (Nat.le_trans hW.size hbd.size))
        rw [HN.out] at h
        exact h.mono fun e W' hh => hh.imp (fun hh => ⟨hh.1, hh.2.1⟩) id
      have HHC := Lib.hid hHC
      clear hHC hbd
      go_still_tail 6, (by kernel_rfl)
      go_wp2_with (go_at_call 66; refine HHC.out.mono ?_)
      rintro e w5 (⟨rfl, hJ5⟩ | ⟨rfl, q, hq, hJx⟩)
      · have HJ5 := Lib.hid hJ5
        clear hJ5
        go_wp2_with fail
        go_end0
        exact ⟨⟨_, rfl⟩, .inl HJ5.out⟩
      · have HJ5 := Lib.hid hJx
        clear hJx
        go_wp2_with fail
        go_end0
        exact ⟨⟨_, rfl⟩, .inr ⟨q, hq, HJ5.out⟩⟩
    · have e3 : decide (f < (l.length : Int)) = false := by simpa using hfl
      have hg : gotL f 0 l = [] := gotL_none f l 0 (by omega)
      rw [hg] at *
      clear hrW hr
      go_enter Tryd.func65, Tryd.ntmps65
      go_wp2_with fail
      go_quiet ((go_at_call 24; exact Calls.quiet_of (HLQ.out _)))
      go_wp2_with fail
      go_end0
      exact ⟨⟨_, rfl⟩, .inl (HJ.out _ _ _ H0.out (below_drewN _ _))⟩
end Go.Proofs.YtaeldfnihocljaaDoor
