/- The walks of the value layer's order, in the program and in the reference. The walks of the program's order. -/
import Derived.Test.YtoiipdknamgcmaaGreatDoorProg
import Derived.Shelf.Small.Strs
import Derived.Deep.QuietTactic
import Derived.BigQuiet
import Derived.StillTailTactics
import Derived.Test.YtoiipdknamgcmaaGreatDoorShelf
import Derived.Test.YtoiipdknamgcmaaGreatDoorCBase
/- The walks of the value layer's order, in the program and in the reference. -/
set_option linter.unusedVariables false
set_option linter.unusedSimpArgs false
namespace Go.Proofs.YtoiipdknamgcmaaGreatDoor
open Go.RowKit Go.Shelf
attribute [local go_sem] lt_succ_of

theorem sign_calls (a b : Bool) (w : World) : Calls Tryz.prog 100 #[.bool a, .bool b] w fun e w' => e = .returned (.int .i64 (if a then -1 else if b then 1 else 0)) ∧ w = w' := by
  cases a <;> cases b
  all_goals
    go_enter Tryz.func100, Tryz.ntmps100
    go_wp2
    go_ret
    exact ⟨rfl, rfl⟩
theorem nan_calls (a : Int) (w : World) : Calls Tryz.prog 123 #[.int .i64 a] w fun e w' => e = .returned (.bool false) ∧ w = w' := by
  go_enter Tryz.func123, Tryz.ntmps123
  go_wp2
  go_ret
  exact ⟨by simp, rfl⟩
theorem nan64_calls (a : Int) (w : World) : Calls Tryz.prog 124 #[.int .i64 a] w fun e w' => e = .returned (.bool false) ∧ w = w' := by
  go_enter Tryz.func124, Tryz.ntmps124
  go_wp2
  go_ret
  exact ⟨by simp, rfl⟩
theorem cmp_calls (a b : Int) (w : World) : Calls Tryz.prog 105 #[.int .i64 a, .int .i64 b] w fun e w' => e = .returned (.int .i64 (sgn a b)) ∧ w = w' := by
  go_enter Tryz.func105, Tryz.ntmps105
  go_wp2_with (go_at_call 123; refine (nan_calls _ _).mono ?_; rintro e w' ⟨rfl, rfl⟩)
  all_goals go_ret
  all_goals exact ⟨ret_i (by unfold sgn; (repeat' split) <;> omega), rfl⟩
theorem cmp64_calls (a b : Int) (w : World) : Calls Tryz.prog 106 #[.int .i64 a, .int .i64 b] w fun e w' => e = .returned (.int .i64 (sgn a b)) ∧ w = w' := by
  go_enter Tryz.func106, Tryz.ntmps106
  go_wp2_with (go_at_call 124; refine (nan64_calls _ _).mono ?_; rintro e w' ⟨rfl, rfl⟩)
  all_goals go_ret
  all_goals exact ⟨ret_i (by unfold sgn; (repeat' split) <;> omega), rfl⟩
set_option maxHeartbeats 1000000 in
set_option maxRecDepth 100000 in
theorem cmpref_calls (x : V) : ∀ (y : V) (vx vy : Value) (w : World) (S S' : Nat → Prop) (hx : IsV w S x vx) (hy : IsV w S' y vy),
    Calls Tryz.prog 71 #[vx, vy] w fun e w' => e = .returned (.int .i64 (cmpV x y)) ∧ Below w.heap.size w w' := by
  induction x using V.induct with
  | h x ih =>
  intro y vx vy w S S' hx hy
  obtain ⟨hbx, A, ca, rfl, hca, hA⟩ := hx.eq
  obtain ⟨hby, B, cb, rfl, hcb, hB⟩ := hy.eq
  clear hx hy
  have ih := Lib.hid ih
  rw [cmpV_eq]
  by_cases hk : x.kind = y.kind
  · rw [if_pos hk]
    have hk1 : (x.kind != y.kind) = false := by simpa using hk
    obtain ⟨w1, hw1, hB1, hsz, hb0, hb1⟩ := boxes2 w (.int .i64 x.kind) (.int .i64 x.num) (.string x.text) (.slice A x.items.length ca) (.int .i64 y.kind) (.int .i64 y.num) (.string y.text) (.slice B y.items.length cb) 24
    obtain ⟨a0, a1, a2, a3⟩ := block4 hb0
    obtain ⟨e0, e1, e2, e3⟩ := block4 hb1
    clear hk hb0 hb1
    by_cases h12 : x.kind = 1 ∨ x.kind = 2
    · rw [if_pos h12]
      have hs : x.kind = 1 ∨ x.kind = 2 := h12
      clear ih
      rcases h12 with h12 | h12
      all_goals
        have cs : ((x.kind == 1) = true ∧ (x.kind == 2) = false) ∨ ((x.kind == 1) = false ∧ (x.kind == 2) = true) := by simp; omega
        clear hs h12
        rcases cs with ⟨c1, c2⟩ | ⟨c1, c2⟩
        all_goals
          go_enter Tryz.func71, Tryz.ntmps71
          go_wp2_with (go_at_call 100; refine (sign_calls _ _ _).mono ?_; rintro e w' ⟨rfl, rfl⟩)
          all_goals go_ret
          all_goals exact ⟨ret_i (by unfold sgn; (repeat' split) <;> simp_all <;> omega), hB1⟩
    · rw [if_neg h12]
      have c1 : (x.kind == 1) = false := by simp; omega
      have c2 : (x.kind == 2) = false := by simp; omega
      clear h12
      by_cases h3 : x.kind = 3
      · rw [if_pos h3]
        have c3 : (x.kind == 3) = true := by simpa using h3
        clear h3 ih
        rw [cmpB_less]
        go_enter Tryz.func71, Tryz.ntmps71
        go_wp2_with (go_at_call 100; refine (sign_calls _ _ _).mono ?_; rintro e w' ⟨rfl, rfl⟩)
        all_goals go_ret
        all_goals exact ⟨ret_i (by cases Op.bytesLess x.text.toList y.text.toList <;> cases (x.text.toList == y.text.toList) <;> simp), hB1⟩
      · rw [if_neg h3]
        have c3 : (x.kind == 3) = false := by simpa using h3
        clear h3
        by_cases h4 : x.kind = 4 ∨ x.kind = 5 ∨ x.kind = 6
        · rw [if_pos h4]
          have cs : ((x.kind == 4) = true ∧ (x.kind == 5) = false ∧ (x.kind == 6) = false) ∨ ((x.kind == 4) = false ∧ (x.kind == 5) = true ∧ (x.kind == 6) = false) ∨ ((x.kind == 4) = false ∧ (x.kind == 5) = false ∧ (x.kind == 6) = true) := by simp; omega
          clear h4
          rcases cs with ⟨c4, c5, c6⟩ | ⟨c4, c5, c6⟩ | ⟨c4, c5, c6⟩
          all_goals
            go_enter Tryz.func71, Tryz.ntmps71
            go_wp2_with fail
            clear c1 c2 c3 c4 c5 c6 hk1 a0 a1 a2 e0 e1 e2
            have hw1 := Lib.hid hw1
            go_loopw [5] (fun i wr => ∃ k : Nat, i = .int .i64 k ∧ k ≤ x.items.length ∧ k ≤ y.items.length ∧ Hid (cmpL (x.items.drop k) (y.items.drop k) = cmpL x.items y.items) ∧ Below w1.heap.size w1 wr) (fun i _ => x.items.length - (intOf i).toNat)
            case atStart => exact ⟨0, rfl, Nat.zero_le _, Nat.zero_le _, Lib.hid rfl, Below.refl _ _⟩
            case round =>
              obtain ⟨k, rfl, hka, hkb, hc, hb⟩ := hrel
              have hka' : (k : Int) ≤ 4294967296 := by have := hbx.l1; omega
              have hf : Below w.heap.size w wr := hB1.trans (hb.mono (by omega))
              have a3' := cellB hb a3
              have e3' := cellB hb e3
              have hA' := hA.below hf
              have hB' := hB.below hf
              clear a3 e3 hA hB
              by_cases h1 : k < x.items.length
              · by_cases h2 : k < y.items.length
                · obtain ⟨ad, A1, cap1, rfl, hlt, hbd, f0, f1, f2, f3, hl, hLA⟩ := hA'.at k h1
                  obtain ⟨bd, B1, cap2, rfl, hlt', hbd', g0, g1, g2, g3, hl', hLA'⟩ := hB'.at k h2
                  go_wp2_with fail
                  go_still_tail 10, (by kernel_rfl)
                  have hm := itemAt_mem h1
                  have HX := IsV.mk hbd hl hLA
                  have HY := IsV.mk hbd' hl' hLA'
                  go_wp2_with (go_at_call 71; go_loud (refine (ih.out _ hm _ _ _ _ S S' (HX.keep Keeps.drew) (HY.keep Keeps.drew)).mono ?_); rintro e w3 ⟨rfl, hb3⟩)
                  all_goals replace hb3 := below_undrew hb3
                  all_goals have hb4 := below_then hb (by have := hb.size; omega) hb3
                  all_goals have hf4 := below_then hf hf.size hb3
                  · go_ret
                    exact ⟨ret_i (by rw [← hc.out, cmpL_drop h1 h2, if_neg (by simpa using ‹(cmpV _ _ != 0) = true›)]), hf4⟩
                  · go_roundw
                    case rel => exact ⟨k + 1, by go_num, by omega, by omega, Lib.hid (by rw [← hc.out, cmpL_drop h1 h2, if_pos (by simpa using ‹(cmpV _ _ != 0) = false›)]), hb4⟩
                    case measure => simp [intOf]; omega
                · have hlen : y.items.length ≤ k := by omega
                  go_wp2_with (go_at_call 100; refine (sign_calls _ _ _).mono ?_; rintro e w' ⟨rfl, rfl⟩)
                  all_goals go_ret
                  all_goals exact ⟨ret_i (by rw [← hc.out, cmpL_drop_more h1 hlen]; try ((repeat' split) <;> simp_all <;> omega)), hf⟩
              · have hlen : x.items.length ≤ k := by omega
                go_wp2_with (go_at_call 100; refine (sign_calls _ _ _).mono ?_; rintro e w' ⟨rfl, rfl⟩)
                all_goals go_ret
                all_goals exact ⟨ret_i (by rw [← hc.out, cmpL_drop_end hlen hkb]; (repeat' split) <;> simp_all <;> omega), hf⟩
        · rw [if_neg h4]
          have c4 : (x.kind == 4) = false := by simp; omega
          have c5 : (x.kind == 5) = false := by simp; omega
          have c6 : (x.kind == 6) = false := by simp; omega
          clear h4
          clear ih
          go_enter Tryz.func71, Tryz.ntmps71
          go_wp2_with fail
          go_ret
          exact ⟨rfl, hB1⟩
  · rw [if_neg hk]
    have hk1 : (x.kind != y.kind) = true := by simpa using hk
    go_enter Tryz.func71, Tryz.ntmps71
    go_wp2_with (go_at_call 100; refine (sign_calls _ _ _).mono ?_; rintro e w' ⟨rfl, rfl⟩)
    all_goals go_ret
    all_goals exact ⟨ret_i (by unfold sgn; (repeat' split) <;> simp_all <;> omega), ((Below.refl _ _).alloc (Nat.le_refl _) _).alloc (by simp) _⟩
end Go.Proofs.YtoiipdknamgcmaaGreatDoor

/- The walks of the program's order. -/
set_option linter.unusedVariables false
set_option linter.unusedSimpArgs false
namespace Go.Proofs.YtoiipdknamgcmaaGreatDoor
open Go.RowKit Go.Shelf
attribute [local go_sem] lt_succ_of
theorem strcmp_calls (a b : ByteArray) (w : World) : Calls Tryz.prog 107 #[.string a, .string b] w fun e w' => e = .returned (.int .i64 (cmpB a b)) ∧ w = w' :=
  (Tryz.strings_Compare a b w).mono fun _ _ ⟨he, hw⟩ => ⟨he, hw.symm⟩

/-- The program's Compare, and CompareFunc by it: of values whose size is below n. -/
def CmpAt (n : Nat) : Prop := ∀ (x : V), V.size x < n → ∀ (y : V) (vx vy : Value) (w : World) (S S' : Nat → Prop) (hx : IsV w S x vx) (hy : IsV w S' y vy),
    Calls Tryz.prog 80 #[vx, vy] w fun e w' => e = .returned (.int .i64 (cmpV x y)) ∧ Below w.heap.size w w'
set_option maxRecDepth 100000 in
theorem cmpf_calls (n : Nat) (ih : CmpAt n) (a b : List V) (ha : ∀ x ∈ a, V.size x < n) (va vb : Value) (w : World) (S S' : Nat → Prop) (hA : IsS w S a va) (hB : IsS w S' b vb) :
    Calls Tryz.prog 108 #[va, vb, .func (.func 80) #[] #[]] w fun e w' => e = .returned (.int .i64 (cmpL a b)) ∧ Below w.heap.size w w' := by
  obtain ⟨A, ca, rfl, hca, hla, hA⟩ := hA
  obtain ⟨B, cb, rfl, hcb, hlb, hB⟩ := hB
  have IH := Lib.hid ih
  have HA := Lib.hid ha
  clear ih ha
  go_enter Tryz.func108, Tryz.ntmps108
  go_wp2_with fail
  go_loopw [13] (fun i wr => ∃ k : Nat, i = .int .i64 k ∧ k ≤ a.length ∧ k ≤ b.length ∧ Hid (cmpL (a.drop k) (b.drop k) = cmpL a b) ∧ Below w.heap.size w wr) (fun i _ => a.length - (intOf i).toNat)
  case atStart => exact ⟨0, rfl, Nat.zero_le _, Nat.zero_le _, Lib.hid rfl, Below.refl _ _⟩
  case round =>
    obtain ⟨k, rfl, hka, hkb, hc, hb⟩ := hrel
    have hA' := hA.below hb
    have hB' := hB.below hb
    have hka' : (k : Int) ≤ 4294967296 := by omega
    clear hA hB
    by_cases h1 : k < a.length
    · by_cases h2 : k < b.length
      · obtain ⟨ad, A1, cap1, rfl, hlt, hbd, f0, f1, f2, f3, hl, hLA⟩ := hA'.at k h1
        obtain ⟨bd, B1, cap2, rfl, hlt', hbd', g0, g1, g2, g3, hl', hLA'⟩ := hB'.at k h2
        have hm := HA.out _ (itemAt_mem h1)
        have HX := IsV.mk hbd hl hLA
        have HY := IsV.mk hbd' hl' hLA'
        have HK := fun (w' : World) (hb' : Below wr.heap.size wr w') => IH.out _ hm (itemAt b k) _ _ w' S S' (HX.below hb') (HY.below hb')
        have HK := Lib.hid HK
        go_wp2_with (go_at_call 80; go_loud (refine (HK.out _ (((Below.refl _ _).alloc (Nat.le_refl _) _).alloc (by simp) _)).mono ?_); rintro e w3 ⟨rfl, hb3⟩)
        all_goals have hb4 := below_then hb hb.size (below_then (((Below.refl _ _).alloc (Nat.le_refl _) _).alloc (by simp) _) (by simp; omega) hb3)
        · go_ret
          exact ⟨ret_i (by rw [← hc.out, cmpL_drop h1 h2, if_neg (by simpa using ‹(cmpV _ _ != 0) = true›)]), hb4⟩
        · go_roundw
          case rel => exact ⟨k + 1, by go_num, by omega, by omega, Lib.hid (by rw [← hc.out, cmpL_drop h1 h2, if_pos (by simpa using ‹(cmpV _ _ != 0) = false›)]), hb4⟩
          case measure => simp [intOf]; omega
      · have hlen : b.length ≤ k := by omega
        obtain ⟨ad, A1, cap1, rfl, hlt, hbd, f0, f1, f2, f3, hl, hLA⟩ := hA'.at k h1
        go_wp2_with fail
        go_ret
        exact ⟨ret_i (by rw [← hc.out, cmpL_drop_more h1 hlen]), below_then hb hb.size ((Below.refl _ _).alloc (Nat.le_refl _) _)⟩
    · have hlen : a.length ≤ k := by omega
      go_wp2_with fail
      all_goals go_ret
      all_goals exact ⟨ret_i (by rw [← hc.out, cmpL_drop_end hlen hkb]; (repeat' split) <;> simp_all <;> omega), hb⟩

set_option maxRecDepth 100000 in
theorem cmp_step (n : Nat) (ih : CmpAt n) : CmpAt (n + 1) := by
  intro x hn y vx vy w S S' hx hy
  obtain ⟨hbx, A, ca, rfl, hca, hA⟩ := hx.eq
  obtain ⟨hby, B, cb, rfl, hcb, hB⟩ := hy.eq
  clear hx hy
  have HI : Hid (∀ w', Below w.heap.size w w' → Calls Tryz.prog 108 #[.slice A x.items.length ca, .slice B y.items.length cb, .func (.func 80) #[] #[]] w' fun e w'' => e = .returned (.int .i64 (cmpL x.items y.items)) ∧ Below w'.heap.size w' w'') :=
    fun w' hb => cmpf_calls n ih x.items y.items (fun z hz => by have := V.size_items hz; omega) _ _ w' S S' (IsV.items hbx hca (hA.below hb)) (IsV.items hby hcb (hB.below hb))
  clear ih
  rw [cmpV_eq]
  by_cases hk : x.kind = y.kind
  · rw [if_pos hk]
    have hk1 : (x.kind != y.kind) = false := by simpa using hk
    obtain ⟨w1, hw1, hB1, hsz, hb0, hb1⟩ := boxes2 w (.int .i64 x.kind) (.int .i64 x.num) (.string x.text) (.slice A x.items.length ca) (.int .i64 y.kind) (.int .i64 y.num) (.string y.text) (.slice B y.items.length cb) 24
    obtain ⟨a0, a1, a2, a3⟩ := block4 hb0
    obtain ⟨e0, e1, e2, e3⟩ := block4 hb1
    clear hk hb0 hb1 hn
    have hT : (x.kind = 1 ∨ x.kind = 2) ∨ x.kind = 3 ∨ (x.kind = 4 ∨ x.kind = 5 ∨ x.kind = 6) ∨ ¬ (x.kind = 1 ∨ x.kind = 2) ∧ x.kind ≠ 3 ∧ ¬ (x.kind = 4 ∨ x.kind = 5 ∨ x.kind = 6) := by omega
    rcases hT with h12 | h3 | h4 | ⟨h12, h3, h4⟩
    · rw [if_pos h12]
      have cs : ((x.kind == 1) = true ∧ (x.kind == 2) = false) ∨ ((x.kind == 1) = false ∧ (x.kind == 2) = true) := by simp; omega
      clear h12
      rcases cs with ⟨c1, c2⟩ | ⟨c1, c2⟩
      all_goals
        go_enter Tryz.func80, Tryz.ntmps80
        go_wp2_with (go_at_call 106; refine (cmp64_calls _ _ _).mono ?_; rintro e w' ⟨rfl, rfl⟩)
        go_ret
        exact ⟨rfl, hB1⟩
    · rw [if_neg (by omega), if_pos h3]
      have c1 : (x.kind == 1) = false := by simp; omega
      have c2 : (x.kind == 2) = false := by simp; omega
      have c3 : (x.kind == 3) = true := by simpa using h3
      clear h3
      go_enter Tryz.func80, Tryz.ntmps80
      go_wp2_with (go_at_call 107; refine (strcmp_calls _ _ _).mono ?_; rintro e w' ⟨rfl, rfl⟩)
      go_ret
      exact ⟨rfl, hB1⟩
    · rw [if_neg (by omega), if_neg (by omega), if_pos h4]
      have c1 : (x.kind == 1) = false := by simp; omega
      have c2 : (x.kind == 2) = false := by simp; omega
      have c3 : (x.kind == 3) = false := by simp; omega
      have cs : ((x.kind == 4) = true ∧ (x.kind == 5) = false ∧ (x.kind == 6) = false) ∨ ((x.kind == 4) = false ∧ (x.kind == 5) = true ∧ (x.kind == 6) = false) ∨ ((x.kind == 4) = false ∧ (x.kind == 5) = false ∧ (x.kind == 6) = true) := by simp; omega
      clear h4
      rcases cs with ⟨c4, c5, c6⟩ | ⟨c4, c5, c6⟩ | ⟨c4, c5, c6⟩
      all_goals
        go_enter Tryz.func80, Tryz.ntmps80
        go_wp2_with (go_at_call 108; refine (HI.out _ hB1).mono ?_; rintro e w' ⟨rfl, hb2⟩)
        go_ret
        exact ⟨rfl, below_then hB1 hB1.size hb2⟩
    · rw [if_neg h12, if_neg h3, if_neg h4]
      have c1 : (x.kind == 1) = false := by simp; omega
      have c2 : (x.kind == 2) = false := by simp; omega
      have c3 : (x.kind == 3) = false := by simp; omega
      have c4 : (x.kind == 4) = false := by simp; omega
      have c5 : (x.kind == 5) = false := by simp; omega
      have c6 : (x.kind == 6) = false := by simp; omega
      clear h12 h3 h4 HI
      go_enter Tryz.func80, Tryz.ntmps80
      go_wp2_with fail
      go_ret
      exact ⟨rfl, hB1⟩
  · rw [if_neg hk]
    have hk1 : (x.kind != y.kind) = true := by simpa using hk
    clear hk HI hn
    go_enter Tryz.func80, Tryz.ntmps80
    go_wp2_with (go_at_call 105; refine (cmp_calls _ _ _).mono ?_; rintro e w' ⟨rfl, rfl⟩)
    go_ret
    exact ⟨rfl, ((Below.refl _ _).alloc (Nat.le_refl _) _).alloc (by simp) _⟩
theorem cmp_all : ∀ n, CmpAt n
  | 0 => fun x h => absurd h (Nat.not_lt_zero _)
  | n + 1 => cmp_step n (cmp_all n)
/-- The program's order. -/
theorem compare_calls (x y : V) (vx vy : Value) (w : World) (S S' : Nat → Prop) (hx : IsV w S x vx) (hy : IsV w S' y vy) :
    Calls Tryz.prog 80 #[vx, vy] w fun e w' => e = .returned (.int .i64 (cmpV x y)) ∧ Below w.heap.size w w' := cmp_all _ x (Nat.lt_succ_self _) y vx vy w S S' hx hy
end Go.Proofs.YtoiipdknamgcmaaGreatDoor
