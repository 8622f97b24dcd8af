/- The walks of the value layer's order, in the program and in the reference. The walks of the program's order. The order of values is an order. The program's order; the world grows, and no more. -/
import Derived.Test.YtmnblgaefdahhaaGreatDoorProg
import Derived.Shelf.Small.Strs
import Derived.Deep.QuietTactic
import Derived.BigQuiet
import Derived.StillTailTactics
import Derived.Test.YtmnblgaefdahhaaGreatDoorShelf
import Derived.Sort.Grow
import Derived.Test.YtmnblgaefdahhaaGreatDoorCBase
/- The walks of the value layer's order, in the program and in the reference. -/
set_option linter.unusedVariables false
set_option linter.unusedSimpArgs false
namespace Go.Proofs.YtmnblgaefdahhaaGreatDoor
open Go.RowKit Go.Shelf
attribute [local go_sem] lt_succ_of

theorem nan_calls (a : Int) (w : World) : Calls Tryz.prog 89 #[.int .i64 a] w fun e w' => e = .returned (.bool false) ∧ w = w' := by
  go_enter Tryz.func89, Tryz.ntmps89
  go_wp2
  go_ret
  exact ⟨by simp, rfl⟩
theorem nan64_calls (a : Int) (w : World) : Calls Tryz.prog 90 #[.int .i64 a] w fun e w' => e = .returned (.bool false) ∧ w = w' := by
  go_enter Tryz.func90, Tryz.ntmps90
  go_wp2
  go_ret
  exact ⟨by simp, rfl⟩
theorem cmp_calls (a b : Int) (w : World) : Calls Tryz.prog 74 #[.int .i64 a, .int .i64 b] w fun e w' => e = .returned (.int .i64 (sgn a b)) ∧ w = w' := by
  go_enter Tryz.func74, Tryz.ntmps74
  go_wp2_with (go_at_call 89; refine (nan_calls _ _).mono ?_; rintro e w' ⟨rfl, rfl⟩)
  all_goals go_ret
  all_goals exact ⟨ret_i (by unfold sgn; (repeat' split) <;> omega), rfl⟩
theorem cmp64_calls (a b : Int) (w : World) : Calls Tryz.prog 75 #[.int .i64 a, .int .i64 b] w fun e w' => e = .returned (.int .i64 (sgn a b)) ∧ w = w' := by
  go_enter Tryz.func75, Tryz.ntmps75
  go_wp2_with (go_at_call 90; refine (nan64_calls _ _).mono ?_; rintro e w' ⟨rfl, rfl⟩)
  all_goals go_ret
  all_goals exact ⟨ret_i (by unfold sgn; (repeat' split) <;> omega), rfl⟩
end Go.Proofs.YtmnblgaefdahhaaGreatDoor

/- The walks of the program's order. -/
set_option linter.unusedVariables false
set_option linter.unusedSimpArgs false
namespace Go.Proofs.YtmnblgaefdahhaaGreatDoor
open Go.RowKit Go.Shelf
attribute [local go_sem] lt_succ_of
theorem strcmp_calls (a b : ByteArray) (w : World) : Calls Tryz.prog 76 #[.string a, .string b] w fun e w' => e = .returned (.int .i64 (cmpB a b)) ∧ w = w' :=
  (Tryz.strings_Compare a b w).mono fun _ _ ⟨he, hw⟩ => ⟨he, hw.symm⟩

/-- The program's Compare, and CompareFunc by it: of values whose size is below n. -/
def CmpAt (n : Nat) : Prop := ∀ (x : V), V.size x < n → ∀ (y : V) (vx vy : Value) (w : World) (S S' : Nat → Prop) (hx : IsV w S x vx) (hy : IsV w S' y vy),
    Calls Tryz.prog 59 #[vx, vy] w fun e w' => e = .returned (.int .i64 (cmpV x y)) ∧ Below w.heap.size w w'
set_option maxRecDepth 100000 in
theorem cmpf_calls (n : Nat) (ih : CmpAt n) (a b : List V) (ha : ∀ x ∈ a, V.size x < n) (va vb : Value) (w : World) (S S' : Nat → Prop) (hA : IsS w S a va) (hB : IsS w S' b vb) :
    Calls Tryz.prog 77 #[va, vb, .func (.func 59) #[] #[]] w fun e w' => e = .returned (.int .i64 (cmpL a b)) ∧ Below w.heap.size w w' := by
  obtain ⟨A, ca, rfl, hca, hla, hA⟩ := hA
  obtain ⟨B, cb, rfl, hcb, hlb, hB⟩ := hB
  have IH := Lib.hid ih
  have HA := Lib.hid ha
  clear ih ha
  go_enter Tryz.func77, Tryz.ntmps77
  go_wp2_with fail
  go_loopw [13] (fun i wr => ∃ k : Nat, i = .int .i64 k ∧ k ≤ a.length ∧ k ≤ b.length ∧ Hid (cmpL (a.drop k) (b.drop k) = cmpL a b) ∧ Below w.heap.size w wr) (fun i _ => a.length - (intOf i).toNat)
  case atStart => exact ⟨0, rfl, Nat.zero_le _, Nat.zero_le _, Lib.hid rfl, Below.refl _ _⟩
  case round =>
    obtain ⟨k, rfl, hka, hkb, hc, hb⟩ := hrel
    have hA' := hA.below hb
    have hB' := hB.below hb
    have hka' : (k : Int) ≤ 4294967296 := by omega
    clear hA hB
    by_cases h1 : k < a.length
    · by_cases h2 : k < b.length
      · obtain ⟨ad, A1, cap1, rfl, hlt, hbd, f0, f1, f2, f3, hl, hLA⟩ := hA'.at k h1
        obtain ⟨bd, B1, cap2, rfl, hlt', hbd', g0, g1, g2, g3, hl', hLA'⟩ := hB'.at k h2
        have hm := HA.out _ (itemAt_mem h1)
        have HX := IsV.mk hbd hl hLA
        have HY := IsV.mk hbd' hl' hLA'
        have HK := fun (w' : World) (hb' : Below wr.heap.size wr w') => IH.out _ hm (itemAt b k) _ _ w' S S' (HX.below hb') (HY.below hb')
        have HK := Lib.hid HK
        go_wp2_with (go_at_call 59; go_loud (refine (HK.out _ (((Below.refl _ _).alloc (Nat.le_refl _) _).alloc (by simp) _)).mono ?_); rintro e w3 ⟨rfl, hb3⟩)
        all_goals have hb4 := below_then hb hb.size (below_then (((Below.refl _ _).alloc (Nat.le_refl _) _).alloc (by simp) _) (by simp; omega) hb3)
        · go_ret
          exact ⟨ret_i (by rw [← hc.out, cmpL_drop h1 h2, if_neg (by simpa using ‹(cmpV _ _ != 0) = true›)]), hb4⟩
        · go_roundw
          case rel => exact ⟨k + 1, by go_num, by omega, by omega, Lib.hid (by rw [← hc.out, cmpL_drop h1 h2, if_pos (by simpa using ‹(cmpV _ _ != 0) = false›)]), hb4⟩
          case measure => simp [intOf]; omega
      · have hlen : b.length ≤ k := by omega
        obtain ⟨ad, A1, cap1, rfl, hlt, hbd, f0, f1, f2, f3, hl, hLA⟩ := hA'.at k h1
        go_wp2_with fail
        go_ret
        exact ⟨ret_i (by rw [← hc.out, cmpL_drop_more h1 hlen]), below_then hb hb.size ((Below.refl _ _).alloc (Nat.le_refl _) _)⟩
    · have hlen : a.length ≤ k := by omega
      go_wp2_with fail
      all_goals go_ret
      all_goals exact ⟨ret_i (by rw [← hc.out, cmpL_drop_end hlen hkb]; (repeat' split) <;> simp_all <;> omega), hb⟩

set_option maxRecDepth 100000 in
theorem cmp_step (n : Nat) (ih : CmpAt n) : CmpAt (n + 1) := by
  intro x hn y vx vy w S S' hx hy
  obtain ⟨hbx, A, ca, rfl, hca, hA⟩ := hx.eq
  obtain ⟨hby, B, cb, rfl, hcb, hB⟩ := hy.eq
  clear hx hy
  have HI : Hid (∀ w', Below w.heap.size w w' → Calls Tryz.prog 77 #[.slice A x.items.length ca, .slice B y.items.length cb, .func (.func 59) #[] #[]] w' fun e w'' => e = .returned (.int .i64 (cmpL x.items y.items)) ∧ Below w'.heap.size w' w'') :=
    fun w' hb => cmpf_calls n ih x.items y.items (fun z hz => by have := V.size_items hz; omega) _ _ w' S S' (IsV.items hbx hca (hA.below hb)) (IsV.items hby hcb (hB.below hb))
  clear ih
  rw [cmpV_eq]
  by_cases hk : x.kind = y.kind
  · rw [if_pos hk]
    have hk1 : (x.kind != y.kind) = false := by simpa using hk
    obtain ⟨w1, hw1, hB1, hsz, hb0, hb1⟩ := boxes2 w (.int .i64 x.kind) (.int .i64 x.num) (.string x.text) (.slice A x.items.length ca) (.int .i64 y.kind) (.int .i64 y.num) (.string y.text) (.slice B y.items.length cb) 39
    obtain ⟨a0, a1, a2, a3⟩ := block4 hb0
    obtain ⟨e0, e1, e2, e3⟩ := block4 hb1
    clear hk hb0 hb1 hn
    have hT : (x.kind = 1 ∨ x.kind = 2) ∨ x.kind = 3 ∨ (x.kind = 4 ∨ x.kind = 5 ∨ x.kind = 6) ∨ ¬ (x.kind = 1 ∨ x.kind = 2) ∧ x.kind ≠ 3 ∧ ¬ (x.kind = 4 ∨ x.kind = 5 ∨ x.kind = 6) := by omega
    rcases hT with h12 | h3 | h4 | ⟨h12, h3, h4⟩
    · rw [if_pos h12]
      have cs : ((x.kind == 1) = true ∧ (x.kind == 2) = false) ∨ ((x.kind == 1) = false ∧ (x.kind == 2) = true) := by simp; omega
      clear h12
      rcases cs with ⟨c1, c2⟩ | ⟨c1, c2⟩
      all_goals
        go_enter Tryz.func59, Tryz.ntmps59
        go_wp2_with (go_at_call 75; refine (cmp64_calls _ _ _).mono ?_; rintro e w' ⟨rfl, rfl⟩)
        go_ret
        exact ⟨rfl, hB1⟩
    · rw [if_neg (by omega), if_pos h3]
      have c1 : (x.kind == 1) = false := by simp; omega
      have c2 : (x.kind == 2) = false := by simp; omega
      have c3 : (x.kind == 3) = true := by simpa using h3
      clear h3
      go_enter Tryz.func59, Tryz.ntmps59
      go_wp2_with (go_at_call 76; refine (strcmp_calls _ _ _).mono ?_; rintro e w' ⟨rfl, rfl⟩)
      go_ret
      exact ⟨rfl, hB1⟩
    · rw [if_neg (by omega), if_neg (by omega), if_pos h4]
      have c1 : (x.kind == 1) = false := by simp; omega
      have c2 : (x.kind == 2) = false := by simp; omega
      have c3 : (x.kind == 3) = false := by simp; omega
      have cs : ((x.kind == 4) = true ∧ (x.kind == 5) = false ∧ (x.kind == 6) = false) ∨ ((x.kind == 4) = false ∧ (x.kind == 5) = true ∧ (x.kind == 6) = false) ∨ ((x.kind == 4) = false ∧ (x.kind == 5) = false ∧ (x.kind == 6) = true) := by simp; omega
      clear h4
      rcases cs with ⟨c4, c5, c6⟩ | ⟨c4, c5, c6⟩ | ⟨c4, c5, c6⟩
      all_goals
        go_enter Tryz.func59, Tryz.ntmps59
        go_wp2_with (go_at_call 77; refine (HI.out _ hB1).mono ?_; rintro e w' ⟨rfl, hb2⟩)
        go_ret
        exact ⟨rfl, below_then hB1 hB1.size hb2⟩
    · rw [if_neg h12, if_neg h3, if_neg h4]
      have c1 : (x.kind == 1) = false := by simp; omega
      have c2 : (x.kind == 2) = false := by simp; omega
      have c3 : (x.kind == 3) = false := by simp; omega
      have c4 : (x.kind == 4) = false := by simp; omega
      have c5 : (x.kind == 5) = false := by simp; omega
      have c6 : (x.kind == 6) = false := by simp; omega
      clear h12 h3 h4 HI
      go_enter Tryz.func59, Tryz.ntmps59
      go_wp2_with fail
      go_ret
      exact ⟨rfl, hB1⟩
  · rw [if_neg hk]
    have hk1 : (x.kind != y.kind) = true := by simpa using hk
    clear hk HI hn
    go_enter Tryz.func59, Tryz.ntmps59
    go_wp2_with (go_at_call 74; refine (cmp_calls _ _ _).mono ?_; rintro e w' ⟨rfl, rfl⟩)
    go_ret
    exact ⟨rfl, ((Below.refl _ _).alloc (Nat.le_refl _) _).alloc (by simp) _⟩
theorem cmp_all : ∀ n, CmpAt n
  | 0 => fun x h => absurd h (Nat.not_lt_zero _)
  | n + 1 => cmp_step n (cmp_all n)
/-- The program's order. -/
theorem compare_calls (x y : V) (vx vy : Value) (w : World) (S S' : Nat → Prop) (hx : IsV w S x vx) (hy : IsV w S' y vy) :
    Calls Tryz.prog 59 #[vx, vy] w fun e w' => e = .returned (.int .i64 (cmpV x y)) ∧ Below w.heap.size w w' := cmp_all _ x (Nat.lt_succ_self _) y vx vy w S S' hx hy
end Go.Proofs.YtmnblgaefdahhaaGreatDoor

/- The order of values is an order. -/
set_option linter.unusedVariables false
set_option linter.unusedSimpArgs false
namespace Go.Proofs.YtmnblgaefdahhaaGreatDoor
open Go.RowKit

/-- What three comparisons must say of each other: of x and y, y and z, x and z. -/
def Tri (a b c : Int) : Prop := a ≤ 0 → b ≤ 0 → c ≤ 0 ∧ (a < 0 ∨ b < 0 → c < 0)
theorem sgn_flip (a b : Int) : sgn b a = - sgn a b := by unfold sgn; repeat' split
                                                         all_goals omega
theorem sgn_tri (a b c : Int) : Tri (sgn a b) (sgn b c) (sgn a c) := by
  unfold Tri sgn
  repeat' split
  all_goals omega
theorem sgn_ne {a b : Int} (h : a ≠ b) : sgn a b ≠ 0 := by
  unfold sgn
  split
  · omega
  · split
    · omega
    · omega
theorem bytes_flip : ∀ a b : List UInt8, Lib.compareBytes b a = - Lib.compareBytes a b
  | [], [] => rfl
  | [], _ :: _ => rfl
  | _ :: _, [] => rfl
  | x :: a, y :: b => by
    have ih := bytes_flip a b
    unfold Lib.compareBytes
    by_cases h1 : x < y
    · have h2 : ¬ y < x := UInt8.lt_asymm h1
      simp only [h1, h2, if_true, if_false]
      rfl
    · by_cases h2 : y < x
      · simp only [h1, h2, if_true, if_false]
      · simp only [h1, h2, if_false, ih]
theorem bytes_tri : ∀ a b c : List UInt8, Tri (Lib.compareBytes a b) (Lib.compareBytes b c) (Lib.compareBytes a c)
  | [], [], [] => by unfold Tri; simp [Lib.compareBytes]
  | [], [], _ :: _ => by unfold Tri; simp [Lib.compareBytes]
  | [], _ :: _, [] => by unfold Tri; simp [Lib.compareBytes]
  | [], y :: b, z :: c => by unfold Tri; simp [Lib.compareBytes]
  | _ :: _, [], _ => by unfold Tri; simp [Lib.compareBytes]
  | _ :: _, _ :: _, [] => by unfold Tri; intro _ h; simp [Lib.compareBytes] at h
  | x :: a, y :: b, z :: c => by
    have ih := bytes_tri a b c
    unfold Tri at ih ⊢
    unfold Lib.compareBytes
    rcases Nat.lt_trichotomy x.toNat y.toNat with h | h | h
    · have p1 : x < y := h
      rcases Nat.lt_trichotomy y.toNat z.toNat with k | k | k
      · have p2 : y < z := k
        have p3 : x < z := Nat.lt_trans h k
        simp only [p1, p2, p3, if_true]; omega
      · have e : y = z := UInt8.toNat_inj.1 k
        subst e
        have q : ¬ y < y := Nat.lt_irrefl _
        simp only [p1, q, if_true, if_false]; omega
      · have p2 : ¬ y < z := Nat.lt_asymm k
        have p3 : z < y := k
        simp only [p1, p2, p3, if_true, if_false]; omega
    · have e : x = y := UInt8.toNat_inj.1 h
      subst e
      have q : ¬ x < x := Nat.lt_irrefl _
      rcases Nat.lt_trichotomy x.toNat z.toNat with k | k | k
      · have p2 : x < z := k
        simp only [q, p2, if_true, if_false]; omega
      · have e : x = z := UInt8.toNat_inj.1 k
        subst e
        simp only [q, if_false]
        exact ih
      · have p2 : ¬ x < z := Nat.lt_asymm k
        have p3 : z < x := k
        simp only [q, p2, p3, if_true, if_false]; omega
    · have p1 : ¬ x < y := Nat.lt_asymm h
      have p2 : y < x := h
      simp only [p1, p2, if_true, if_false]; omega
theorem cmpB_flip (a b : ByteArray) : cmpB b a = - cmpB a b := bytes_flip _ _
theorem cmpB_tri (a b c : ByteArray) : Tri (cmpB a b) (cmpB b c) (cmpB a c) := bytes_tri _ _ _
mutual
theorem cmpV_flip : ∀ x y : V, cmpV y x = - cmpV x y
  | .mk k n t l, .mk k' n' t' l' => by
    have ih := cmpL_flip l l'
    rw [cmpV, cmpV]
    by_cases hk : k = k'
    · subst hk
      rw [if_pos rfl, if_pos rfl]
      by_cases h1 : k = 1 ∨ k = 2
      · rw [if_pos h1, if_pos h1, sgn_flip]
      rw [if_neg h1, if_neg h1]
      by_cases h3 : k = 3
      · rw [if_pos h3, if_pos h3, cmpB_flip]
      rw [if_neg h3, if_neg h3]
      by_cases h4 : k = 4 ∨ k = 5 ∨ k = 6
      · rw [if_pos h4, if_pos h4, ih]
      · rw [if_neg h4, if_neg h4]; rfl
    · rw [if_neg hk, if_neg (fun e => hk e.symm), sgn_flip]
theorem cmpL_flip : ∀ a b : List V, cmpL b a = - cmpL a b
  | [], [] => by simp [cmpL]
  | [], _ :: _ => by simp [cmpL]
  | _ :: _, [] => by simp [cmpL]
  | x :: xs, y :: ys => by
    have h1 := cmpV_flip x y
    have h2 := cmpL_flip xs ys
    rw [cmpL, cmpL]
    by_cases h : cmpV x y = 0
    · rw [if_pos h, if_pos (by omega), h2]
    · rw [if_neg h, if_neg (by omega), h1]
end
mutual
theorem cmpV_tri : ∀ x y z : V, Tri (cmpV x y) (cmpV y z) (cmpV x z)
  | .mk k n t l, .mk k' n' t' l', .mk k'' n'' t'' l'' => by
    have ih := cmpL_tri l l' l''
    rw [cmpV, cmpV, cmpV]
    by_cases hk : k = k'
    · subst hk
      by_cases hk2 : k = k''
      · subst hk2
        rw [if_pos rfl, if_pos rfl, if_pos rfl]
        by_cases h1 : k = 1 ∨ k = 2
        · rw [if_pos h1, if_pos h1, if_pos h1]; exact sgn_tri _ _ _
        rw [if_neg h1, if_neg h1, if_neg h1]
        by_cases h3 : k = 3
        · rw [if_pos h3, if_pos h3, if_pos h3]; exact cmpB_tri _ _ _
        rw [if_neg h3, if_neg h3, if_neg h3]
        by_cases h4 : k = 4 ∨ k = 5 ∨ k = 6
        · rw [if_pos h4, if_pos h4, if_pos h4]; exact ih
        · rw [if_neg h4, if_neg h4, if_neg h4]; unfold Tri; omega
      · rw [if_pos rfl, if_neg hk2, if_neg hk2]
        have := sgn_ne hk2
        unfold Tri
        omega
    · rw [if_neg hk]
      by_cases hk2 : k' = k''
      · subst hk2
        rw [if_pos rfl, if_neg hk]
        have := sgn_ne hk
        unfold Tri
        omega
      · rw [if_neg hk2]
        have h1 := sgn_ne hk
        have h2 := sgn_ne hk2
        have h3 := sgn_tri k k' k''
        unfold Tri at h3 ⊢
        intro a b
        have h4 := h3 a b
        by_cases hk3 : k = k''
        · subst hk3
          have : sgn k k = 0 := by unfold sgn; rw [if_neg (by omega), if_neg (by omega)]
          omega
        · rw [if_neg hk3]; exact h4
theorem cmpL_tri : ∀ a b c : List V, Tri (cmpL a b) (cmpL b c) (cmpL a c)
  | [], [], [] => by unfold Tri; simp [cmpL]
  | [], [], _ :: _ => by unfold Tri; simp [cmpL]
  | [], _ :: _, [] => by unfold Tri; simp [cmpL]
  | [], y :: b, z :: c => by unfold Tri; simp [cmpL]
  | _ :: _, [], _ => by unfold Tri; simp [cmpL]
  | _ :: _, _ :: _, [] => by unfold Tri; intro _ h; simp [cmpL] at h
  | x :: a, y :: b, z :: c => by
    have ih := cmpL_tri a b c
    have hv := cmpV_tri x y z
    have f1 := cmpV_flip x y
    have f2 := cmpV_flip y z
    have hv2 := cmpV_tri z y x
    have f3 := cmpV_flip x z
    rw [cmpL, cmpL, cmpL]
    unfold Tri at ih hv hv2 ⊢
    by_cases h1 : cmpV x y = 0
    · by_cases h2 : cmpV y z = 0
      · rw [if_pos h1, if_pos h2, if_pos (by omega)]
        exact ih
      · rw [if_pos h1, if_neg h2]
        by_cases h3 : cmpV x z = 0
        · omega
        · rw [if_neg h3]; omega
    · by_cases h2 : cmpV y z = 0
      · rw [if_neg h1, if_pos h2]
        by_cases h3 : cmpV x z = 0
        · omega
        · rw [if_neg h3]; omega
      · rw [if_neg h1, if_neg h2]
        by_cases h3 : cmpV x z = 0
        · omega
        · rw [if_neg h3]; omega
end
end Go.Proofs.YtmnblgaefdahhaaGreatDoor

/- The program's order; the world grows, and no more. -/
set_option linter.unusedVariables false
set_option linter.unusedSimpArgs false
namespace Go.Proofs.YtmnblgaefdahhaaGreatDoor
open Go.RowKit Go.Shelf
attribute [local go_sem] lt_succ_of

/-- The world has grown, and nothing was drawn. -/
structure Bq (w w' : World) : Prop where
  below : Below w.heap.size w w'
  drawn : w'.drawn = w.drawn
theorem Bq.refl (w : World) : Bq w w := ⟨Below.refl _ _, rfl⟩
theorem Bq.trans {w w1 w2 : World} (h : Bq w w1) (k : Bq w1 w2) : Bq w w2 := ⟨below_then h.below h.below.size k.below, k.drawn.trans h.drawn⟩
theorem Bq.box (w : World) (o : Obj) : Bq w (w.alloc o) := ⟨(Below.refl _ _).alloc (Nat.le_refl _) _, rfl⟩
theorem Bq.boxes (w : World) (o o' : Obj) : Bq w ((w.alloc o).alloc o') := (Bq.box w o).trans (Bq.box _ o')
theorem Bq.grow {w w' : World} (h : Bq w w') : ∃ q os, w' = Sort.grow (w.drewN q) os := by
  refine ⟨0, w'.heap.extract w.heap.size w'.heap.size, ?_⟩
  have hs := h.below.size
  have hh : w'.heap = w.heap ++ w'.heap.extract w.heap.size w'.heap.size := by
    apply Array.ext_getElem?
    intro i
    rw [Array.getElem?_append]
    by_cases hi : i < w.heap.size
    · rw [if_pos hi, h.below.block i hi]
    · rw [if_neg hi, Array.getElem?_extract]
      by_cases h2 : i < w'.heap.size
      · rw [if_pos (by omega), show w.heap.size + (i - w.heap.size) = i by omega]
      · rw [if_neg (by omega), Array.getElem?_eq_none (by omega)]
  have h1 := h.below.os
  have h2 := h.below.tape
  have h3 := h.below.output
  have h4 := h.drawn
  obtain ⟨hp, tp, dr, oss, out⟩ := w'
  obtain ⟨hp0, tp0, dr0, os0, out0⟩ := w
  simp only at hh h1 h2 h3 h4
  subst h1
  subst h2
  subst h3
  subst h4
  unfold Sort.grow World.drewN
  simp only [World.mk.injEq, and_true, Nat.add_zero, true_and]
  exact hh
/-- The program's Compare, and CompareFunc by it: of values whose size is below n. -/
def CmpQ (n : Nat) : Prop := ∀ (x : V), V.size x < n → ∀ (y : V) (vx vy : Value) (w : World) (S S' : Nat → Prop) (hx : IsV w S x vx) (hy : IsV w S' y vy),
    Calls Tryz.prog 59 #[vx, vy] w fun e w' => e = .returned (.int .i64 (cmpV x y)) ∧ Bq w w'
set_option maxRecDepth 100000 in
theorem cmpfq_calls (n : Nat) (ih : CmpQ n) (a b : List V) (ha : ∀ x ∈ a, V.size x < n) (va vb : Value) (w : World) (S S' : Nat → Prop) (hA : IsS w S a va) (hB : IsS w S' b vb) :
    Calls Tryz.prog 77 #[va, vb, .func (.func 59) #[] #[]] w fun e w' => e = .returned (.int .i64 (cmpL a b)) ∧ Bq w w' := by
  obtain ⟨A, ca, rfl, hca, hla, hA⟩ := hA
  obtain ⟨B, cb, rfl, hcb, hlb, hB⟩ := hB
  have IH := Lib.hid ih
  have HA := Lib.hid ha
  clear ih ha
  go_enter Tryz.func77, Tryz.ntmps77
  go_wp2_with fail
  go_loopw [13] (fun i wr => ∃ k : Nat, i = .int .i64 k ∧ k ≤ a.length ∧ k ≤ b.length ∧ Hid (cmpL (a.drop k) (b.drop k) = cmpL a b) ∧ Bq w wr) (fun i _ => a.length - (intOf i).toNat)
  case atStart => exact ⟨0, rfl, Nat.zero_le _, Nat.zero_le _, Lib.hid rfl, Bq.refl _⟩
  case round =>
    obtain ⟨k, rfl, hka, hkb, hc, hb⟩ := hrel
    have hA' := hA.below hb.below
    have hB' := hB.below hb.below
    have hka' : (k : Int) ≤ 4294967296 := by omega
    clear hA hB
    by_cases h1 : k < a.length
    · by_cases h2 : k < b.length
      · obtain ⟨ad, A1, cap1, rfl, hlt, hbd, f0, f1, f2, f3, hl, hLA⟩ := hA'.at k h1
        obtain ⟨bd, B1, cap2, rfl, hlt', hbd', g0, g1, g2, g3, hl', hLA'⟩ := hB'.at k h2
        have hm := HA.out _ (itemAt_mem h1)
        have HX := IsV.mk hbd hl hLA
        have HY := IsV.mk hbd' hl' hLA'
        have HK := fun (w' : World) (hb' : Below wr.heap.size wr w') => IH.out _ hm (itemAt b k) _ _ w' S S' (HX.below hb') (HY.below hb')
        have HK := Lib.hid HK
        go_wp2_with (go_at_call 59; go_loud (refine (HK.out _ (((Below.refl _ _).alloc (Nat.le_refl _) _).alloc (by simp) _)).mono ?_); rintro e w3 ⟨rfl, hb3⟩)
        all_goals have hb4 := hb.trans ((Bq.boxes _ _ _).trans hb3)
        · go_ret
          exact ⟨ret_i (by rw [← hc.out, cmpL_drop h1 h2, if_neg (by simpa using ‹(cmpV _ _ != 0) = true›)]), hb4⟩
        · go_roundw
          case rel => exact ⟨k + 1, by go_num, by omega, by omega, Lib.hid (by rw [← hc.out, cmpL_drop h1 h2, if_pos (by simpa using ‹(cmpV _ _ != 0) = false›)]), hb4⟩
          case measure => simp [intOf]; omega
      · have hlen : b.length ≤ k := by omega
        obtain ⟨ad, A1, cap1, rfl, hlt, hbd, f0, f1, f2, f3, hl, hLA⟩ := hA'.at k h1
        go_wp2_with fail
        go_ret
        exact ⟨ret_i (by rw [← hc.out, cmpL_drop_more h1 hlen]), hb.trans (Bq.box _ _)⟩
    · have hlen : a.length ≤ k := by omega
      go_wp2_with fail
      all_goals go_ret
      all_goals exact ⟨ret_i (by rw [← hc.out, cmpL_drop_end hlen hkb]; (repeat' split) <;> simp_all <;> omega), hb⟩

set_option maxRecDepth 100000 in
theorem cmpq_step (n : Nat) (ih : CmpQ n) : CmpQ (n + 1) := by
  intro x hn y vx vy w S S' hx hy
  obtain ⟨hbx, A, ca, rfl, hca, hA⟩ := hx.eq
  obtain ⟨hby, B, cb, rfl, hcb, hB⟩ := hy.eq
  clear hx hy
  have HI : Hid (∀ w', Below w.heap.size w w' → Calls Tryz.prog 77 #[.slice A x.items.length ca, .slice B y.items.length cb, .func (.func 59) #[] #[]] w' fun e w'' => e = .returned (.int .i64 (cmpL x.items y.items)) ∧ Bq w' w'') :=
    fun w' hb => cmpfq_calls n ih x.items y.items (fun z hz => by have := V.size_items hz; omega) _ _ w' S S' (IsV.items hbx hca (hA.below hb)) (IsV.items hby hcb (hB.below hb))
  clear ih
  rw [cmpV_eq]
  by_cases hk : x.kind = y.kind
  · rw [if_pos hk]
    have hk1 : (x.kind != y.kind) = false := by simpa using hk
    obtain ⟨w1, hw1, hB1, hsz, hb0, hb1⟩ := boxes2 w (.int .i64 x.kind) (.int .i64 x.num) (.string x.text) (.slice A x.items.length ca) (.int .i64 y.kind) (.int .i64 y.num) (.string y.text) (.slice B y.items.length cb) 39
    have hQ1 : Bq w w1 := ⟨hB1, by rw [← hw1]; rfl⟩
    obtain ⟨a0, a1, a2, a3⟩ := block4 hb0
    obtain ⟨e0, e1, e2, e3⟩ := block4 hb1
    clear hk hb0 hb1 hn
    have hT : (x.kind = 1 ∨ x.kind = 2) ∨ x.kind = 3 ∨ (x.kind = 4 ∨ x.kind = 5 ∨ x.kind = 6) ∨ ¬ (x.kind = 1 ∨ x.kind = 2) ∧ x.kind ≠ 3 ∧ ¬ (x.kind = 4 ∨ x.kind = 5 ∨ x.kind = 6) := by omega
    rcases hT with h12 | h3 | h4 | ⟨h12, h3, h4⟩
    · rw [if_pos h12]
      have cs : ((x.kind == 1) = true ∧ (x.kind == 2) = false) ∨ ((x.kind == 1) = false ∧ (x.kind == 2) = true) := by simp; omega
      clear h12
      rcases cs with ⟨c1, c2⟩ | ⟨c1, c2⟩
      all_goals
        go_enter Tryz.func59, Tryz.ntmps59
        go_wp2_with (go_at_call 75; refine (cmp64_calls _ _ _).mono ?_; rintro e w' ⟨rfl, rfl⟩)
        go_ret
        exact ⟨rfl, hQ1⟩
    · rw [if_neg (by omega), if_pos h3]
      have c1 : (x.kind == 1) = false := by simp; omega
      have c2 : (x.kind == 2) = false := by simp; omega
      have c3 : (x.kind == 3) = true := by simpa using h3
      clear h3
      go_enter Tryz.func59, Tryz.ntmps59
      go_wp2_with (go_at_call 76; refine (strcmp_calls _ _ _).mono ?_; rintro e w' ⟨rfl, rfl⟩)
      go_ret
      exact ⟨rfl, hQ1⟩
    · rw [if_neg (by omega), if_neg (by omega), if_pos h4]
      have c1 : (x.kind == 1) = false := by simp; omega
      have c2 : (x.kind == 2) = false := by simp; omega
      have c3 : (x.kind == 3) = false := by simp; omega
      have cs : ((x.kind == 4) = true ∧ (x.kind == 5) = false ∧ (x.kind == 6) = false) ∨ ((x.kind == 4) = false ∧ (x.kind == 5) = true ∧ (x.kind == 6) = false) ∨ ((x.kind == 4) = false ∧ (x.kind == 5) = false ∧ (x.kind == 6) = true) := by simp; omega
      clear h4
      rcases cs with ⟨c4, c5, c6⟩ | ⟨c4, c5, c6⟩ | ⟨c4, c5, c6⟩
      all_goals
        go_enter Tryz.func59, Tryz.ntmps59
        go_wp2_with (go_at_call 77; refine (HI.out _ hB1).mono ?_; rintro e w' ⟨rfl, hb2⟩)
        go_ret
        exact ⟨rfl, hQ1.trans hb2⟩
    · rw [if_neg h12, if_neg h3, if_neg h4]
      have c1 : (x.kind == 1) = false := by simp; omega
      have c2 : (x.kind == 2) = false := by simp; omega
      have c3 : (x.kind == 3) = false := by simp; omega
      have c4 : (x.kind == 4) = false := by simp; omega
      have c5 : (x.kind == 5) = false := by simp; omega
      have c6 : (x.kind == 6) = false := by simp; omega
      clear h12 h3 h4 HI
      go_enter Tryz.func59, Tryz.ntmps59
      go_wp2_with fail
      go_ret
      exact ⟨rfl, hQ1⟩
  · rw [if_neg hk]
    have hk1 : (x.kind != y.kind) = true := by simpa using hk
    clear hk HI hn
    go_enter Tryz.func59, Tryz.ntmps59
    go_wp2_with (go_at_call 74; refine (cmp_calls _ _ _).mono ?_; rintro e w' ⟨rfl, rfl⟩)
    go_ret
    exact ⟨rfl, Bq.boxes _ _ _⟩
theorem cmpq_all : ∀ n, CmpQ n
  | 0 => fun x h => absurd h (Nat.not_lt_zero _)
  | n + 1 => cmpq_step n (cmpq_all n)
/-- The program's order. -/
theorem compareq_calls (x y : V) (vx vy : Value) (w : World) (S S' : Nat → Prop) (hx : IsV w S x vx) (hy : IsV w S' y vy) :
    Calls Tryz.prog 59 #[vx, vy] w fun e w' => e = .returned (.int .i64 (cmpV x y)) ∧ Bq w w' := cmpq_all _ x (Nat.lt_succ_self _) y vx vy w S S' hx hy
end Go.Proofs.YtmnblgaefdahhaaGreatDoor
