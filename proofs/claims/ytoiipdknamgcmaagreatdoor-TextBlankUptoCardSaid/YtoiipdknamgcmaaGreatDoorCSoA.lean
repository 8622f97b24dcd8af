/- The order of values is an order. The program's order; the world grows, and no more. Rows of values, sorted. slices.Clone of values. -/
import Derived.Test.YtoiipdknamgcmaaGreatDoorShelfB
import Derived.Test.YtoiipdknamgcmaaGreatDoorCBase
import Derived.Test.YtoiipdknamgcmaaGreatDoorCCmp
import Derived.Test.YtoiipdknamgcmaaGreatDoorCBut
/- The order of values is an order. -/
set_option linter.unusedVariables false
set_option linter.unusedSimpArgs false
namespace Go.Proofs.YtoiipdknamgcmaaGreatDoor
open Go.RowKit

/-- What three comparisons must say of each other: of x and y, y and z, x and z. -/
def Tri (a b c : Int) : Prop := a ≤ 0 → b ≤ 0 → c ≤ 0 ∧ (a < 0 ∨ b < 0 → c < 0)
theorem sgn_flip (a b : Int) : sgn b a = - sgn a b := by unfold sgn; repeat' split
                                                         all_goals omega
theorem sgn_tri (a b c : Int) : Tri (sgn a b) (sgn b c) (sgn a c) := by
  unfold Tri sgn
  repeat' split
  all_goals omega
theorem sgn_ne {a b : Int} (h : a ≠ b) : sgn a b ≠ 0 := by
  unfold sgn
  split
  · omega
  · split
    · omega
    · omega
theorem bytes_flip : ∀ a b : List UInt8, Lib.compareBytes b a = - Lib.compareBytes a b
  | [], [] => rfl
  | [], _ :: _ => rfl
  | _ :: _, [] => rfl
  | x :: a, y :: b => by
    have ih := bytes_flip a b
    unfold Lib.compareBytes
    by_cases h1 : x < y
    · have h2 : ¬ y < x := UInt8.lt_asymm h1
      simp only [h1, h2, if_true, if_false]
      rfl
    · by_cases h2 : y < x
      · simp only [h1, h2, if_true, if_false]
      · simp only [h1, h2, if_false, ih]
theorem bytes_tri : ∀ a b c : List UInt8, Tri (Lib.compareBytes a b) (Lib.compareBytes b c) (Lib.compareBytes a c)
  | [], [], [] => by unfold Tri; simp [Lib.compareBytes]
  | [], [], _ :: _ => by unfold Tri; simp [Lib.compareBytes]
  | [], _ :: _, [] => by unfold Tri; simp [Lib.compareBytes]
  | [], y :: b, z :: c => by unfold Tri; simp [Lib.compareBytes]
  | _ :: _, [], _ => by unfold Tri; simp [Lib.compareBytes]
  | _ :: _, _ :: _, [] => by unfold Tri; intro _ h; simp [Lib.compareBytes] at h
  | x :: a, y :: b, z :: c => by
    have ih := bytes_tri a b c
    unfold Tri at ih ⊢
    unfold Lib.compareBytes
    rcases Nat.lt_trichotomy x.toNat y.toNat with h | h | h
    · have p1 : x < y := h
      rcases Nat.lt_trichotomy y.toNat z.toNat with k | k | k
      · have p2 : y < z := k
        have p3 : x < z := Nat.lt_trans h k
        simp only [p1, p2, p3, if_true]; omega
      · have e : y = z := UInt8.toNat_inj.1 k
        subst e
        have q : ¬ y < y := Nat.lt_irrefl _
        simp only [p1, q, if_true, if_false]; omega
      · have p2 : ¬ y < z := Nat.lt_asymm k
        have p3 : z < y := k
        simp only [p1, p2, p3, if_true, if_false]; omega
    · have e : x = y := UInt8.toNat_inj.1 h
      subst e
      have q : ¬ x < x := Nat.lt_irrefl _
      rcases Nat.lt_trichotomy x.toNat z.toNat with k | k | k
      · have p2 : x < z := k
        simp only [q, p2, if_true, if_false]; omega
      · have e : x = z := UInt8.toNat_inj.1 k
        subst e
        simp only [q, if_false]
        exact ih
      · have p2 : ¬ x < z := Nat.lt_asymm k
        have p3 : z < x := k
        simp only [q, p2, p3, if_true, if_false]; omega
    · have p1 : ¬ x < y := Nat.lt_asymm h
      have p2 : y < x := h
      simp only [p1, p2, if_true, if_false]; omega
theorem cmpB_flip (a b : ByteArray) : cmpB b a = - cmpB a b := bytes_flip _ _
theorem cmpB_tri (a b c : ByteArray) : Tri (cmpB a b) (cmpB b c) (cmpB a c) := bytes_tri _ _ _
mutual
theorem cmpV_flip : ∀ x y : V, cmpV y x = - cmpV x y
  | .mk k n t l, .mk k' n' t' l' => by
    have ih := cmpL_flip l l'
    rw [cmpV, cmpV]
    by_cases hk : k = k'
    · subst hk
      rw [if_pos rfl, if_pos rfl]
      by_cases h1 : k = 1 ∨ k = 2
      · rw [if_pos h1, if_pos h1, sgn_flip]
      rw [if_neg h1, if_neg h1]
      by_cases h3 : k = 3
      · rw [if_pos h3, if_pos h3, cmpB_flip]
      rw [if_neg h3, if_neg h3]
      by_cases h4 : k = 4 ∨ k = 5 ∨ k = 6
      · rw [if_pos h4, if_pos h4, ih]
      · rw [if_neg h4, if_neg h4]; rfl
    · rw [if_neg hk, if_neg (fun e => hk e.symm), sgn_flip]
theorem cmpL_flip : ∀ a b : List V, cmpL b a = - cmpL a b
  | [], [] => by simp [cmpL]
  | [], _ :: _ => by simp [cmpL]
  | _ :: _, [] => by simp [cmpL]
  | x :: xs, y :: ys => by
    have h1 := cmpV_flip x y
    have h2 := cmpL_flip xs ys
    rw [cmpL, cmpL]
    by_cases h : cmpV x y = 0
    · rw [if_pos h, if_pos (by omega), h2]
    · rw [if_neg h, if_neg (by omega), h1]
end
mutual
theorem cmpV_tri : ∀ x y z : V, Tri (cmpV x y) (cmpV y z) (cmpV x z)
  | .mk k n t l, .mk k' n' t' l', .mk k'' n'' t'' l'' => by
    have ih := cmpL_tri l l' l''
    rw [cmpV, cmpV, cmpV]
    by_cases hk : k = k'
    · subst hk
      by_cases hk2 : k = k''
      · subst hk2
        rw [if_pos rfl, if_pos rfl, if_pos rfl]
        by_cases h1 : k = 1 ∨ k = 2
        · rw [if_pos h1, if_pos h1, if_pos h1]; exact sgn_tri _ _ _
        rw [if_neg h1, if_neg h1, if_neg h1]
        by_cases h3 : k = 3
        · rw [if_pos h3, if_pos h3, if_pos h3]; exact cmpB_tri _ _ _
        rw [if_neg h3, if_neg h3, if_neg h3]
        by_cases h4 : k = 4 ∨ k = 5 ∨ k = 6
        · rw [if_pos h4, if_pos h4, if_pos h4]; exact ih
        · rw [if_neg h4, if_neg h4, if_neg h4]; unfold Tri; omega
      · rw [if_pos rfl, if_neg hk2, if_neg hk2]
        have := sgn_ne hk2
        unfold Tri
        omega
    · rw [if_neg hk]
      by_cases hk2 : k' = k''
      · subst hk2
        rw [if_pos rfl, if_neg hk]
        have := sgn_ne hk
        unfold Tri
        omega
      · rw [if_neg hk2]
        have h1 := sgn_ne hk
        have h2 := sgn_ne hk2
        have h3 := sgn_tri k k' k''
        unfold Tri at h3 ⊢
        intro a b
        have h4 := h3 a b
        by_cases hk3 : k = k''
        · subst hk3
          have : sgn k k = 0 := by unfold sgn; rw [if_neg (by omega), if_neg (by omega)]
          omega
        · rw [if_neg hk3]; exact h4
theorem cmpL_tri : ∀ a b c : List V, Tri (cmpL a b) (cmpL b c) (cmpL a c)
  | [], [], [] => by unfold Tri; simp [cmpL]
  | [], [], _ :: _ => by unfold Tri; simp [cmpL]
  | [], _ :: _, [] => by unfold Tri; simp [cmpL]
  | [], y :: b, z :: c => by unfold Tri; simp [cmpL]
  | _ :: _, [], _ => by unfold Tri; simp [cmpL]
  | _ :: _, _ :: _, [] => by unfold Tri; intro _ h; simp [cmpL] at h
  | x :: a, y :: b, z :: c => by
    have ih := cmpL_tri a b c
    have hv := cmpV_tri x y z
    have f1 := cmpV_flip x y
    have f2 := cmpV_flip y z
    have hv2 := cmpV_tri z y x
    have f3 := cmpV_flip x z
    rw [cmpL, cmpL, cmpL]
    unfold Tri at ih hv hv2 ⊢
    by_cases h1 : cmpV x y = 0
    · by_cases h2 : cmpV y z = 0
      · rw [if_pos h1, if_pos h2, if_pos (by omega)]
        exact ih
      · rw [if_pos h1, if_neg h2]
        by_cases h3 : cmpV x z = 0
        · omega
        · rw [if_neg h3]; omega
    · by_cases h2 : cmpV y z = 0
      · rw [if_neg h1, if_pos h2]
        by_cases h3 : cmpV x z = 0
        · omega
        · rw [if_neg h3]; omega
      · rw [if_neg h1, if_neg h2]
        by_cases h3 : cmpV x z = 0
        · omega
        · rw [if_neg h3]; omega
end
end Go.Proofs.YtoiipdknamgcmaaGreatDoor

/- The program's order; the world grows, and no more. -/
set_option linter.unusedVariables false
set_option linter.unusedSimpArgs false
namespace Go.Proofs.YtoiipdknamgcmaaGreatDoor
open Go.RowKit Go.Shelf
attribute [local go_sem] lt_succ_of

/-- The world has grown, and nothing was drawn. -/
structure Bq (w w' : World) : Prop where
  below : Below w.heap.size w w'
  drawn : w'.drawn = w.drawn
theorem Bq.refl (w : World) : Bq w w := ⟨Below.refl _ _, rfl⟩
theorem Bq.trans {w w1 w2 : World} (h : Bq w w1) (k : Bq w1 w2) : Bq w w2 := ⟨below_then h.below h.below.size k.below, k.drawn.trans h.drawn⟩
theorem Bq.box (w : World) (o : Obj) : Bq w (w.alloc o) := ⟨(Below.refl _ _).alloc (Nat.le_refl _) _, rfl⟩
theorem Bq.boxes (w : World) (o o' : Obj) : Bq w ((w.alloc o).alloc o') := (Bq.box w o).trans (Bq.box _ o')
theorem Bq.grow {w w' : World} (h : Bq w w') : ∃ q os, w' = Sort.grow (w.drewN q) os := by
  refine ⟨0, w'.heap.extract w.heap.size w'.heap.size, ?_⟩
  have hs := h.below.size
  have hh : w'.heap = w.heap ++ w'.heap.extract w.heap.size w'.heap.size := by
    apply Array.ext_getElem?
    intro i
    rw [Array.getElem?_append]
    by_cases hi : i < w.heap.size
    · rw [if_pos hi, h.below.block i hi]
    · rw [if_neg hi, Array.getElem?_extract]
      by_cases h2 : i < w'.heap.size
      · rw [if_pos (by omega), show w.heap.size + (i - w.heap.size) = i by omega]
      · rw [if_neg (by omega), Array.getElem?_eq_none (by omega)]
  have h1 := h.below.os
  have h2 := h.below.tape
  have h3 := h.below.output
  have h4 := h.drawn
  obtain ⟨hp, tp, dr, oss, out⟩ := w'
  obtain ⟨hp0, tp0, dr0, os0, out0⟩ := w
  simp only at hh h1 h2 h3 h4
  subst h1
  subst h2
  subst h3
  subst h4
  unfold Sort.grow World.drewN
  simp only [World.mk.injEq, and_true, Nat.add_zero, true_and]
  exact hh
/-- The program's Compare, and CompareFunc by it: of values whose size is below n. -/
def CmpQ (n : Nat) : Prop := ∀ (x : V), V.size x < n → ∀ (y : V) (vx vy : Value) (w : World) (S S' : Nat → Prop) (hx : IsV w S x vx) (hy : IsV w S' y vy),
    Calls Tryz.prog 80 #[vx, vy] w fun e w' => e = .returned (.int .i64 (cmpV x y)) ∧ Bq w w'
set_option maxRecDepth 100000 in
theorem cmpfq_calls (n : Nat) (ih : CmpQ n) (a b : List V) (ha : ∀ x ∈ a, V.size x < n) (va vb : Value) (w : World) (S S' : Nat → Prop) (hA : IsS w S a va) (hB : IsS w S' b vb) :
    Calls Tryz.prog 108 #[va, vb, .func (.func 80) #[] #[]] w fun e w' => e = .returned (.int .i64 (cmpL a b)) ∧ Bq w w' := by
  obtain ⟨A, ca, rfl, hca, hla, hA⟩ := hA
  obtain ⟨B, cb, rfl, hcb, hlb, hB⟩ := hB
  have IH := Lib.hid ih
  have HA := Lib.hid ha
  clear ih ha
  go_enter Tryz.func108, Tryz.ntmps108
  go_wp2_with fail
  go_loopw [13] (fun i wr => ∃ k : Nat, i = .int .i64 k ∧ k ≤ a.length ∧ k ≤ b.length ∧ Hid (cmpL (a.drop k) (b.drop k) = cmpL a b) ∧ Bq w wr) (fun i _ => a.length - (intOf i).toNat)
  case atStart => exact ⟨0, rfl, Nat.zero_le _, Nat.zero_le _, Lib.hid rfl, Bq.refl _⟩
  case round =>
    obtain ⟨k, rfl, hka, hkb, hc, hb⟩ := hrel
    have hA' := hA.below hb.below
    have hB' := hB.below hb.below
    have hka' : (k : Int) ≤ 4294967296 := by omega
    clear hA hB
    by_cases h1 : k < a.length
    · by_cases h2 : k < b.length
      · obtain ⟨ad, A1, cap1, rfl, hlt, hbd, f0, f1, f2, f3, hl, hLA⟩ := hA'.at k h1
        obtain ⟨bd, B1, cap2, rfl, hlt', hbd', g0, g1, g2, g3, hl', hLA'⟩ := hB'.at k h2
        have hm := HA.out _ (itemAt_mem h1)
        have HX := IsV.mk hbd hl hLA
        have HY := IsV.mk hbd' hl' hLA'
        have HK := fun (w' : World) (hb' : Below wr.heap.size wr w') => IH.out _ hm (itemAt b k) _ _ w' S S' (HX.below hb') (HY.below hb')
        have HK := Lib.hid HK
        go_wp2_with (go_at_call 80; go_loud (refine (HK.out _ (((Below.refl _ _).alloc (Nat.le_refl _) _).alloc (by simp) _)).mono ?_); rintro e w3 ⟨rfl, hb3⟩)
        all_goals have hb4 := hb.trans ((Bq.boxes _ _ _).trans hb3)
        · go_ret
          exact ⟨ret_i (by rw [← hc.out, cmpL_drop h1 h2, if_neg (by simpa using ‹(cmpV _ _ != 0) = true›)]), hb4⟩
        · go_roundw
          case rel => exact ⟨k + 1, by go_num, by omega, by omega, Lib.hid (by rw [← hc.out, cmpL_drop h1 h2, if_pos (by simpa using ‹(cmpV _ _ != 0) = false›)]), hb4⟩
          case measure => simp [intOf]; omega
      · have hlen : b.length ≤ k := by omega
        obtain ⟨ad, A1, cap1, rfl, hlt, hbd, f0, f1, f2, f3, hl, hLA⟩ := hA'.at k h1
        go_wp2_with fail
        go_ret
        exact ⟨ret_i (by rw [← hc.out, cmpL_drop_more h1 hlen]), hb.trans (Bq.box _ _)⟩
    · have hlen : a.length ≤ k := by omega
      go_wp2_with fail
      all_goals go_ret
      all_goals exact ⟨ret_i (by rw [← hc.out, cmpL_drop_end hlen hkb]; (repeat' split) <;> simp_all <;> omega), hb⟩

set_option maxRecDepth 100000 in
theorem cmpq_step (n : Nat) (ih : CmpQ n) : CmpQ (n + 1) := by
  intro x hn y vx vy w S S' hx hy
  obtain ⟨hbx, A, ca, rfl, hca, hA⟩ := hx.eq
  obtain ⟨hby, B, cb, rfl, hcb, hB⟩ := hy.eq
  clear hx hy
  have HI : Hid (∀ w', Below w.heap.size w w' → Calls Tryz.prog 108 #[.slice A x.items.length ca, .slice B y.items.length cb, .func (.func 80) #[] #[]] w' fun e w'' => e = .returned (.int .i64 (cmpL x.items y.items)) ∧ Bq w' w'') :=
    fun w' hb => cmpfq_calls n ih x.items y.items (fun z hz => by have := V.size_items hz; omega) _ _ w' S S' (IsV.items hbx hca (hA.below hb)) (IsV.items hby hcb (hB.below hb))
  clear ih
  rw [cmpV_eq]
  by_cases hk : x.kind = y.kind
  · rw [if_pos hk]
    have hk1 : (x.kind != y.kind) = false := by simpa using hk
    obtain ⟨w1, hw1, hB1, hsz, hb0, hb1⟩ := boxes2 w (.int .i64 x.kind) (.int .i64 x.num) (.string x.text) (.slice A x.items.length ca) (.int .i64 y.kind) (.int .i64 y.num) (.string y.text) (.slice B y.items.length cb) 24
    have hQ1 : Bq w w1 := ⟨hB1, by rw [← hw1]; rfl⟩
    obtain ⟨a0, a1, a2, a3⟩ := block4 hb0
    obtain ⟨e0, e1, e2, e3⟩ := block4 hb1
    clear hk hb0 hb1 hn
    have hT : (x.kind = 1 ∨ x.kind = 2) ∨ x.kind = 3 ∨ (x.kind = 4 ∨ x.kind = 5 ∨ x.kind = 6) ∨ ¬ (x.kind = 1 ∨ x.kind = 2) ∧ x.kind ≠ 3 ∧ ¬ (x.kind = 4 ∨ x.kind = 5 ∨ x.kind = 6) := by omega
    rcases hT with h12 | h3 | h4 | ⟨h12, h3, h4⟩
    · rw [if_pos h12]
      have cs : ((x.kind == 1) = true ∧ (x.kind == 2) = false) ∨ ((x.kind == 1) = false ∧ (x.kind == 2) = true) := by simp; omega
      clear h12
      rcases cs with ⟨c1, c2⟩ | ⟨c1, c2⟩
      all_goals
        go_enter Tryz.func80, Tryz.ntmps80
        go_wp2_with (go_at_call 106; refine (cmp64_calls _ _ _).mono ?_; rintro e w' ⟨rfl, rfl⟩)
        go_ret
        exact ⟨rfl, hQ1⟩
    · rw [if_neg (by omega), if_pos h3]
      have c1 : (x.kind == 1) = false := by simp; omega
      have c2 : (x.kind == 2) = false := by simp; omega
      have c3 : (x.kind == 3) = true := by simpa using h3
      clear h3
      go_enter Tryz.func80, Tryz.ntmps80
      go_wp2_with (go_at_call 107; refine (strcmp_calls _ _ _).mono ?_; rintro e w' ⟨rfl, rfl⟩)
      go_ret
      exact ⟨rfl, hQ1⟩
    · rw [if_neg (by omega), if_neg (by omega), if_pos h4]
      have c1 : (x.kind == 1) = false := by simp; omega
      have c2 : (x.kind == 2) = false := by simp; omega
      have c3 : (x.kind == 3) = false := by simp; omega
      have cs : ((x.kind == 4) = true ∧ (x.kind == 5) = false ∧ (x.kind == 6) = false) ∨ ((x.kind == 4) = false ∧ (x.kind == 5) = true ∧ (x.kind == 6) = false) ∨ ((x.kind == 4) = false ∧ (x.kind == 5) = false ∧ (x.kind == 6) = true) := by simp; omega
      clear h4
      rcases cs with ⟨c4, c5, c6⟩ | ⟨c4, c5, c6⟩ | ⟨c4, c5, c6⟩
      all_goals
        go_enter Tryz.func80, Tryz.ntmps80
        go_wp2_with (go_at_call 108; refine (HI.out _ hB1).mono ?_; rintro e w' ⟨rfl, hb2⟩)
        go_ret
        exact ⟨rfl, hQ1.trans hb2⟩
    · rw [if_neg h12, if_neg h3, if_neg h4]
      have c1 : (x.kind == 1) = false := by simp; omega
      have c2 : (x.kind == 2) = false := by simp; omega
      have c3 : (x.kind == 3) = false := by simp; omega
      have c4 : (x.kind == 4) = false := by simp; omega
      have c5 : (x.kind == 5) = false := by simp; omega
      have c6 : (x.kind == 6) = false := by simp; omega
      clear h12 h3 h4 HI
      go_enter Tryz.func80, Tryz.ntmps80
      go_wp2_with fail
      go_ret
      exact ⟨rfl, hQ1⟩
  · rw [if_neg hk]
    have hk1 : (x.kind != y.kind) = true := by simpa using hk
    clear hk HI hn
    go_enter Tryz.func80, Tryz.ntmps80
    go_wp2_with (go_at_call 105; refine (cmp_calls _ _ _).mono ?_; rintro e w' ⟨rfl, rfl⟩)
    go_ret
    exact ⟨rfl, Bq.boxes _ _ _⟩
theorem cmpq_all : ∀ n, CmpQ n
  | 0 => fun x h => absurd h (Nat.not_lt_zero _)
  | n + 1 => cmpq_step n (cmpq_all n)
/-- The program's order. -/
theorem compareq_calls (x y : V) (vx vy : Value) (w : World) (S S' : Nat → Prop) (hx : IsV w S x vx) (hy : IsV w S' y vy) :
    Calls Tryz.prog 80 #[vx, vy] w fun e w' => e = .returned (.int .i64 (cmpV x y)) ∧ Bq w w' := cmpq_all _ x (Nat.lt_succ_self _) y vx vy w S S' hx hy
end Go.Proofs.YtoiipdknamgcmaaGreatDoor

/- Rows of values, sorted. -/
set_option linter.unusedVariables false
set_option linter.unusedSimpArgs false
namespace Go.Proofs.YtoiipdknamgcmaaGreatDoor
open Go.RowKit Go.Shelf Go.Sort
attribute [local go_sem] lt_succ_of

def CvOk (w : World) (S : Nat → Prop) (c : V × Option Addr × Nat) : Prop := V.Bd c.1 ∧ c.1.items.length ≤ c.2.2 ∧ LA w S c.1.items c.2.1
abbrev Cv (w : World) (S : Nat → Prop) := {c : V × Option Addr × Nat // CvOk w S c}
theorem cvOk_zero (w : World) (S : Nat → Prop) : CvOk w S (V.zero, none, 0) :=
  ⟨⟨by simp [V.zero, V.kind], by simp [V.zero, V.kind], by simp [V.zero, V.num], by simp [V.zero, V.num], Nat.zero_le _, by simp [V.zero, V.items]⟩, Nat.le_refl _, .inl rfl⟩
instance (w : World) (S : Nat → Prop) : Inhabited (Cv w S) := ⟨⟨_, cvOk_zero w S⟩⟩
def encC {w : World} {S : Nat → Prop} (x : Cv w S) : List Value := [.int .i64 x.1.1.kind, .int .i64 x.1.1.num, .string x.1.1.text, .slice x.1.2.1 x.1.1.items.length x.1.2.2]
theorem encC_length {w : World} {S : Nat → Prop} (x : Cv w S) : (encC x).length = 4 := rfl
theorem encC_one {w : World} {S : Nat → Prop} (x : Cv w S) : ∀ v ∈ encC x, v.oneCell' = true := by
  intro v hv
  simp only [encC, List.mem_cons, List.not_mem_nil, or_false] at hv
  rcases hv with rfl | rfl | rfl | rfl <;> rfl
theorem cs_ds {w : World} {S : Nat → Prop} : ∀ {l : List V} {c : List Value}, CsL w S l c → ∃ ds : List (Cv w S), ds.map (fun d => d.1.1) = l ∧ c = ds.flatMap encC
  | [], c, h => by
    obtain rfl : c = [] := h
    exact ⟨[], rfl, rfl⟩
  | x :: l, c, h => by
    obtain ⟨a, b, rfl, ha, hb⟩ := h
    obtain ⟨ds, h1, h2⟩ := cs_ds hb
    obtain ⟨hbd, A, cap, rfl, hc, hA⟩ := ha.eq
    exact ⟨⟨(x, A, cap), hbd, hc, hA⟩ :: ds, by rw [List.map_cons, h1], by rw [List.flatMap_cons, h2]; rfl⟩
theorem ds_cs {w w' : World} {S S' : Nat → Prop} (hk : Keeps w S w' S') : ∀ ds : List (Cv w S), CsL w' S' (ds.map (fun d => d.1.1)) (ds.flatMap encC)
  | [] => rfl
  | d :: ds => ⟨encC d, ds.flatMap encC, List.flatMap_cons, VC.mk d.2.1 d.2.2.1 (d.2.2.2.keep hk), ds_cs hk ds⟩
theorem flat_length {w : World} {S : Nat → Prop} (ds : List (Cv w S)) : (ds.flatMap encC).length = ds.length * 4 := by
  induction ds with
  | nil => rfl
  | cons d ds ih => rw [List.flatMap_cons, List.length_append, ih, encC_length, List.length_cons]; omega
theorem flat_get {w : World} {S : Nat → Prop} : ∀ (ds : List (Cv w S)) (t : Nat), t < ds.length * 4 → (ds.flatMap encC)[t]? = some ((encC ds[t / 4]!)[t % 4]!)
  | [], t, h => by simp at h
  | d :: ds, t, h => by
    rw [List.flatMap_cons, List.getElem?_append, encC_length]
    by_cases ht : t < 4
    · rw [if_pos ht, show t / 4 = 0 by omega, show t % 4 = t by omega]
      have : t = 0 ∨ t = 1 ∨ t = 2 ∨ t = 3 := by omega
      rcases this with rfl | rfl | rfl | rfl <;> rfl
    · rw [if_neg ht]
      rw [List.length_cons] at h
      rw [flat_get ds (t - 4) (by omega), show t / 4 = (t - 4) / 4 + 1 by omega, show t % 4 = (t - 4) % 4 by omega]
      simp
/-- A row of values at the beginning of a block. -/
def RowV (w : World) (g : Nat) (S : Nat → Prop) (l : List V) : Prop := ∃ c, CsL w S l c ∧ ∀ j u, c[j]? = some u → w.cell? ⟨g, j, none⟩ = some u ∧ w.frozen? ⟨g, j, none⟩ = false
theorem flatK_get {w : World} {S : Nat → Prop} (d : Array (Cv w S)) (j : Nat) (h : j < d.size * 4) : (flatK encC 4 d)[j]! = (encC d.toList[j / 4]!)[j % 4]! := by
  rw [get_flatK _ _ _ _ h]
  have h2 : j / 4 < d.size := by omega
  rw [getElem!_pos d _ h2, getElem!_pos d.toList _ (by simpa using h2)]
  rfl
theorem RowV.holds {w : World} {g : Nat} {S : Nat → Prop} {l : List V} (h : RowV w g S l) : ∃ d : Array (Cv w S), d.toList.map (fun d => d.1.1) = l ∧ HoldsK encC 4 w g 0 d := by
  obtain ⟨c, hc, hcell⟩ := h
  obtain ⟨ds, h1, rfl⟩ := cs_ds hc
  refine ⟨ds.toArray, h1, fun j hj => ?_⟩
  rw [size_flatK] at hj
  have hj2 : j < ds.length * 4 := by simpa using hj
  rw [Nat.zero_add, flatK_get _ _ hj]
  exact hcell j _ (flat_get ds j hj2)
theorem RowV.of_holds {w w' : World} {g : Nat} {S S' : Nat → Prop} (hk : Keeps w S w' S') (d : Array (Cv w S)) (h : HoldsK encC 4 w' g 0 d) : RowV w' g S' (d.toList.map (fun d => d.1.1)) := by
  refine ⟨d.toList.flatMap encC, ds_cs hk d.toList, fun j u hj => ?_⟩
  have hl : j < d.toList.length * 4 := by rw [← flat_length]; exact (List.getElem?_eq_some_iff.1 hj).1
  have hl2 : j < d.size * 4 := by simpa using hl
  have h2 := h j (by rw [size_flatK]; exact hl2)
  rw [Nat.zero_add, flatK_get _ _ hl2] at h2
  rw [flat_get _ _ hl] at hj
  injection hj with hj
  rw [← hj]
  exact h2
def cfV {w : World} {S : Nat → Prop} (x y : Cv w S) : Int := cmpV x.1.1 y.1.1
theorem ltV_iff {w : World} {S : Nat → Prop} (x y : Cv w S) : ltOf cfV x y = decide (cmpV x.1.1 y.1.1 < 0) := rfl
theorem swoV (w : World) (S : Nat → Prop) : SWO (ltOf (cfV (w := w) (S := S))) where
  irrefl x := by
    have h := cmpV_flip x.1.1 x.1.1
    rw [ltV_iff]
    exact decide_eq_false (by omega)
  trans x y z h1 h2 := by
    have h := cmpV_tri x.1.1 y.1.1 z.1.1
    unfold Tri at h
    rw [ltV_iff] at h1 h2 ⊢
    have k1 := of_decide_eq_true h1
    have k2 := of_decide_eq_true h2
    exact decide_eq_true (by omega)
  ntrans x y z h1 h2 := by
    have h3 := cmpV_tri z.1.1 y.1.1 x.1.1
    have f1 := cmpV_flip x.1.1 y.1.1
    have f2 := cmpV_flip y.1.1 z.1.1
    have f3 := cmpV_flip x.1.1 z.1.1
    unfold Tri at h3
    rw [ltV_iff] at h1 h2 ⊢
    have k1 := of_decide_eq_false h1
    have k2 := of_decide_eq_false h2
    exact decide_eq_false (by omega)
theorem sw_heap {w : World} {S : Nat → Prop} (g m b : Nat) (dk : Array (Cv w S)) (os : Array Obj) (hb : b < w.heap.size) (hne : b ≠ g) : (sortWorldK encC 4 w g 0 m dk os).heap[b]? = w.heap[b]? := by
  have h1 : ∀ f, (w.heap.modify g f)[b]? = w.heap[b]? := fun f => by rw [Array.getElem?_modify, if_neg (Ne.symm hne)]
  show ((w.heap.modify g _) ++ os)[b]? = _
  rw [Array.getElem?_append_left (by rw [Array.size_modify]; exact hb), h1]
theorem sw_but {w : World} {S : Nat → Prop} (g m : Nat) (dk : Array (Cv w S)) (os : Array Obj) : But (· = g) w (sortWorldK encC 4 w g 0 m dk os) :=
  ⟨rfl, rfl, rfl, by show _ ≤ ((w.heap.modify g _) ++ os).size; rw [Array.size_append, Array.size_modify]; omega, fun b hb hne => sw_heap g m b dk os hb hne⟩
/-- Members in order. -/
def SortedV (l : List V) : Prop := l.Pairwise fun a b => cmpV a b ≤ 0
theorem cmpLaysV (w : World) (S : Nat → Prop) (g : Nat) (hS : ∀ b, S b → b ≠ g) (n : Nat) : CmpLays Tryz.prog 80 #[] (encC (w := w) (S := S)) 4 cfV g 0 n w := by
  intro m os dk _ x y
  have hk : Keeps w S (sortWorldK encC 4 w g 0 m dk os) S := (sw_but g m dk os).keeps hS
  have hx : ∀ z : Cv w S, IsV (sortWorldK encC 4 w g 0 m dk os) S z.1.1 (.agg (encC z).toArray) := fun z => ⟨encC z, VC.mk z.2.1 z.2.2.1 (z.2.2.2.keep hk), rfl⟩
  refine (compareq_calls x.1.1 y.1.1 _ _ _ S S (hx x) (hx y)).mono ?_
  rintro e w' ⟨rfl, hb⟩
  exact ⟨rfl, hb.grow⟩
set_option maxRecDepth 100000 in
theorem sort_calls (l : List V) (g cap : Nat) (w : World) (S : Nat → Prop) (hS : ∀ b, S b → b ≠ g) (hR : RowV w g S l) (hg : g < w.heap.size) (hl : l.length ≤ 65536) :
    Calls Tryz.prog 87 #[.slice (some ⟨g, 0, none⟩) l.length cap, .func (.func 80) #[] #[]] w fun e w' => e = .returned (.tuple #[]) ∧ ∃ l', l'.Perm l ∧ SortedV l' ∧ RowV w' g S l' ∧ But (· = g) w w' := by
  obtain ⟨d, rfl, hH⟩ := hR.holds
  have eg : ∀ args w, (callFunc 80 args).run Tryz.prog w = .ok (.enter 80 args) w := enters_of Tryz.func80 (by kernel_rfl) rfl
  have hls : (d.toList.map fun d => d.1.1).length = d.size := by rw [List.length_map]; rfl
  rw [hls] at hl ⊢
  have hcon := AnyQ.slices_SortFunc Tryz.sortV 4 Tryz.isAgg24 Tryz.sizeOf24 encC encC_length encC_one cfV (swoV w S) 80 #[] g 0 cap d w eg (cmpLaysV w S g hS d.size) hH hg (by omega)
  refine hcon.mono ?_
  rintro e w' ⟨rfl, d', n, os, hp, hs, rfl⟩
  obtain ⟨hps, _, hpp⟩ := hp
  have hex : ∀ a : Array (Cv w S), a.size = d.size → a.extract 0 d.size = a := fun a h => by rw [← h]; exact Array.extract_size ..
  rw [hex d rfl, hex d' hps] at hpp
  have hk : Keeps w S (sortWorldK encC 4 w g 0 n d' os) S := (sw_but g n d' os).keeps hS
  refine ⟨rfl, _, hpp.map _, ?_, RowV.of_holds hk d' ?_, sw_but g n d' os⟩
  · unfold SortedV
    rw [List.pairwise_map, List.pairwise_iff_getElem]
    intro i j hi hj hij
    have hj2 : j < d.size := by rw [← hps]; simpa using hj
    have h1 := hs i j (Nat.zero_le _) hij hj2
    rw [ltV_iff] at h1
    have h2 := of_decide_eq_false h1
    have h3 := cmpV_flip (d'[i]!).1.1 (d'[j]!).1.1
    rw [getElem!_pos d' i (by omega), getElem!_pos d' j (by omega)] at h2 h3
    show cmpV (d'[i]).1.1 (d'[j]).1.1 ≤ 0
    omega
  · unfold sortWorldK
    refine holdsK_grow _ _ _ _ _ _ _ ?_ (holdsK_putRowK _ _ _ _ _ d d' (holdsK_ahead _ _ _ _ _ _ _ hH) hps)
    show g < (w.heap.modify g _).size
    rw [Array.size_modify]
    exact hg
end Go.Proofs.YtoiipdknamgcmaaGreatDoor

/- slices.Clone of values. -/
set_option linter.unusedVariables false
set_option linter.unusedSimpArgs false
namespace Go.Proofs.YtoiipdknamgcmaaGreatDoor
open Go.RowKit Go.Shelf
attribute [local go_sem] lt_succ_of

theorem own_empty (w : World) : OwnL (w.alloc (.cells #[] 24)) w.heap.size (fun b => b < w.heap.size) [] (.slice (some ⟨w.heap.size, 0, none⟩) 0 0) :=
  ⟨[], ⟨rfl, .inr ⟨w.heap.size, 0, #[], rfl, Nat.le_refl _, heap_alloc_new w _, Nat.le_refl _, Nat.zero_le _, rfl, rfl⟩⟩, rfl⟩
set_option maxRecDepth 100000 in
set_option maxHeartbeats 4000000 in
theorem clone_calls (l : List V) (vl : Value) (w : World) (S : Nat → Prop) (hl : IsS w S l vl) :
    Calls Tryz.prog 86 #[vl] w fun e w' => ∃ v', e = .returned v' ∧ OwnL w' w.heap.size (fun b => b < w.heap.size) l v' ∧ Below w.heap.size w w' := by
  obtain ⟨A, ca, rfl, hca, hla, hA⟩ := hl
  have q22 : ∀ (w : World) (a : Option Addr) (n c n' c' : Nat), (binOp .eql 22 (.slice a n c) (.slice none n' c')).run Tryz.prog w = .ok (.bool a.isNone) w := fun w a n c n' c' => Lib.run_eql_slice_nil w _ _ a n c n' c' Tryz.underlying22
  cases A with
  | none =>
    have hz : l = [] := by
      rcases hA with h | ⟨ad, h, _⟩
      · exact h
      · cases h
    subst hz
    go_enter Tryz.func86, Tryz.ntmps86
    go_wp2_with fail
    go_ret
    exact ⟨_, rfl, OwnL.nil _ _ _, Below.refl _ _⟩
  | some ad =>
    have hm : LA (w.alloc (.cells #[] 24)) (fun b => b < w.heap.size ∧ some b ≠ (Value.slice (some ⟨w.heap.size, 0, none⟩) 0 0).ownBlock) l (some ad) := hA.keep fun b hb hs => ⟨⟨hb, fun e => by injection e with e; exact absurd (show b = w.heap.size from e) (Nat.ne_of_lt hb)⟩, Below.heap_alloc _ _ _ hb⟩
    have HM := Lib.hid hm
    have hsz : w.heap.size ≤ (w.alloc (.cells #[] 24)).heap.size := by simp
    have HSZ := Lib.hid hsz
    have HB := Lib.hid (show Below w.heap.size w (w.alloc (.cells #[] 24)) from (Below.refl _ _).alloc (Nat.le_refl _) _)
    clear hm hA hsz
    go_enter Tryz.func86, Tryz.ntmps86
    go_wp2_with (at_builtin; refine append_many w.heap.size (fun b => b < w.heap.size) rfl _ _ rfl (.slice (some ⟨w.heap.size, 0, none⟩) 0 0) [] l (some ad) ca rfl rfl (own_empty w) HM.out HSZ.out (by simp; omega) ?_; intro v1 w1 hO1 hg1; rw [List.nil_append] at hO1; have HO1 := Lib.hid hO1; have HB1 := Lib.hid (HB.out.grown hg1 HSZ.out (fun k e => by injection e with e; exact Nat.le_of_eq e)); obtain ⟨A1, c1, rfl, _⟩ := hO1.form; clear hO1 hg1)
    go_ret
    exact ⟨_, rfl, HO1.out, HB1.out⟩
end Go.Proofs.YtoiipdknamgcmaaGreatDoor
