/- What a vector hands out from a place on. -/
import Derived.Test.YtaeldfnihocljaaDoorRl
set_option linter.unusedVariables false
set_option linter.unusedSimpArgs false
namespace Go.Proofs.YtaeldfnihocljaaDoor
open Go.RowKit Go.Shelf
attribute [local go_sem] Oper.semAt_some lt_succ_of methLeaf methBranch asNone asSome asLeaf asBranch

/-- Items from place f on, the first of them at place p. -/
def gotL (f : Int) (p : Nat) : List V → List (Nat × V)
  | [] => []
  | x :: xs => (if f ≤ (p : Int) then [(p, x)] else []) ++ gotL f (p + 1) xs
theorem gotL_append (f : Int) : ∀ (a b : List V) (p : Nat), gotL f p (a ++ b) = gotL f p a ++ gotL f (p + a.length) b
  | [], b, p => by simp [gotL]
  | x :: a, b, p => by
    rw [List.cons_append, gotL, gotL_append f a b (p + 1), gotL, List.append_assoc, List.length_cons, show p + 1 + a.length = p + (a.length + 1) by omega]
theorem gotL_none (f : Int) : ∀ (a : List V) (p : Nat), ((p + a.length : Nat) : Int) ≤ f → gotL f p a = []
  | [], p, _ => rfl
  | x :: a, p, h => by
    rw [List.length_cons] at h
    rw [gotL, if_neg (by omega), gotL_none f a (p + 1) (by omega)]
    rfl
theorem gotL_take {f : Int} {p : Nat} {l : List V} {i : Nat} (h : i < l.length) : gotL f p (l.take (i + 1)) = gotL f p (l.take i) ++ (if f ≤ ((p + i : Nat) : Int) then [(p + i, itemAt l i)] else []) := by
  rw [itemAt_take h, gotL_append, List.length_take, Nat.min_eq_left (by omega)]
  simp [gotL]
theorem gotL_kid {f : Int} {p : Nat} {ks : List N} {i : Nat} (h : i < ks.length) : gotL f p (N.flat (ks.take (i + 1))) = gotL f p (N.flat (ks.take i)) ++ gotL f (p + aheadN ks i) (N.items (kidAt ks i)) := by
  rw [kidAt_take h, flat_append, flat_one, gotL_append]
  rfl

/-- What each says of a node. -/
def EachAt (h : Nat) : Prop := ∀ (k : N) (u : Value) (f : Int) (p : Nat) (n l B : Nat) (S : Nat → Prop) (J Jx : List (Nat × V) → World → Prop) (G pre : List (Nat × V)) (W : World),
  Dn h k → IsN W (fun b => S b ∧ b < B) k u → -9223372036854775808 ≤ f → f ≤ 9223372036854775807 → p + (N.items k).length ≤ 4294967296 → Stays J → Round S B l J Jx G → pre ++ gotL f p (N.items k) <+: G → J pre W → B ≤ W.heap.size →
  CallsIn Fence.wide n Tryd.prog 66 #[u, .int .i64 f, .int .i64 (p : Int), .func (.yield l) #[] #[]] W fun e W' => (e = .returned (.bool true) ∧ J (pre ++ gotL f p (N.items k)) W' ∧ Agree S B W W') ∨ (e = .returned (.bool false) ∧ ∃ q, q <+: G ∧ Jx q W')

theorem prefix_left {a b G : List (Nat × V)} (h : a ++ b <+: G) : a <+: G := (List.prefix_append a b).trans h

set_option maxRecDepth 100000 in
set_option maxHeartbeats 8000000 in
theorem each_leaf (m : List V) (A : Option Addr) (cap : Nat) (f : Int) (p : Nat) (n l B : Nat) (S : Nat → Prop) (J Jx : List (Nat × V) → World → Prop) (G pre : List (Nat × V)) (W : World)
    (hA : LA W (fun b => S b ∧ b < B) m A) (hcap : m.length ≤ cap) (hf0 : -9223372036854775808 ≤ f) (hf1 : f ≤ 9223372036854775807) (hp : p + m.length ≤ 4294967296) (hJ : Stays J) (hR : Round S B l J Jx G) (hpre : pre ++ gotL f p m <+: G) (h0 : J pre W) (hB : B ≤ W.heap.size) :
    CallsIn Fence.wide n Tryd.prog 66 #[.iface 87 (.slice A m.length cap), .int .i64 f, .int .i64 (p : Int), .func (.yield l) #[] #[]] W fun e W' => (e = .returned (.bool true) ∧ J (pre ++ gotL f p m) W' ∧ Agree S B W W') ∨ (e = .returned (.bool false) ∧ ∃ q, q <+: G ∧ Jx q W') := by
  have HA := Lib.hid hA
  have HJ := Lib.hid hJ
  have HR := Lib.hid hR
  have HP := Lib.hid hpre
  have H0 := Lib.hid h0
  clear hA hJ hR hpre h0
  refine callsIn_of_wp Tryd.func66 rfl trivial ?_ rfl
  simp only [Tryd.ntmps66, List.size_toArray, List.length_cons, List.length_nil, Nat.reduceAdd, Nat.reduceSub, Array.replicate_succ, Array.replicate_zero, List.push_toArray, List.append_toArray, List.nil_append, List.cons_append]
  gi_wp2_with fail
  gi_loopw [26] (fun vi wr => ∃ i : Nat, vi = .int .i64 i ∧ i ≤ m.length ∧ Hid (J (pre ++ gotL f p (m.take i)) wr) ∧ Agree S B W wr) (fun v _ => m.length - (intOf v).toNat)
  case atStart => exact ⟨0, rfl, by omega, Lib.hid (by simpa [gotL] using H0.out), Agree.refl _ _ _⟩
  case round =>
    obtain ⟨i, rfl, hi, HI, hag⟩ := hrel
    by_cases hlt : i < m.length
    · obtain ⟨ad, A1, cap1, rfl, hla', hbd, f0, f1, f2, f3, hcap1, hLA⟩ := (HA.out.keep (S' := fun b => S b ∧ b < B) hag.keeps).at i hlt
      by_cases ht : f ≤ ((p + i : Nat) : Int)
      · have ht2 : f ≤ (p : Int) + (i : Int) := by omega
        have hX := IsV.mk hbd hcap1 hLA
        have HX := Lib.hid hX
        have hpi : (p : Int) + (i : Int) = ((p + i : Nat) : Int) := by omega
        have hgt : gotL f p (m.take (i + 1)) = gotL f p (m.take i) ++ [(p + i, itemAt m i)] := by rw [gotL_take hlt, if_pos ht]
        have HG : Hid (gotL f p (m.take (i + 1)) = gotL f p (m.take i) ++ [(p + i, itemAt m i)]) := Lib.hid hgt
        have HPP : Hid ((pre ++ gotL f p (m.take i)) ++ [(p + i, itemAt m i)] <+: G) := by
          refine Lib.hid (prefix_left (b := gotL f (p + (i + 1)) (m.drop (i + 1))) ?_)
          have h1 := HP.out
          conv at h1 => lhs; rw [← List.take_append_drop (i + 1) m, gotL_append, hgt]
          rw [List.length_take, Nat.min_eq_left (by omega)] at h1
          simpa [List.append_assoc] using h1
        have HPI := Lib.hid hpi
        clear hX hgt hpi
        gi_wp2_with fail
        refine ⟨trivial, fun h => (by cases h), ?_⟩
        refine (callsIn_wide.2 (own_calls (itemAt m i) _ _ (fun b => S b ∧ b < B) (HX.out.keep (Keeps.alloc _)))).mono ?_
        rintro e w3 ⟨v, rfl, hv, hb3⟩
        have hb4 := below_then ((Below.refl wr.heap.size wr).alloc (Nat.le_refl _) _) (by simp) hb3
        obtain ⟨fn, tmps, assign, body, hy, hRR⟩ := HR.out (pre ++ gotL f p (m.take i)) (p + i) (itemAt m i) v wr w3 HI.out hb4 (hv.keep (Keeps.weak fun b hb => Nat.le_trans (by simp) hb)) HPP.out (n - 1)
        rw [← HPI.out] at hy
        gi_wp2_with fail
        refine ⟨fun h => (by cases h), hRR.mono ?_⟩
        rintro e w5 (⟨rfl, hJ5, hk5⟩ | ⟨rfl, hJx⟩)
        · have HJ5 := Lib.hid hJ5
          clear hJ5
          gi_wp2_with fail
          go_roundw
          case rel => exact ⟨i + 1, by go_num, by omega, Lib.hid (by rw [HG.out, ← List.append_assoc]; exact HJ5.out), (hag.trans (Agree.below hb4 (Nat.le_trans hB hag.1))).trans hk5⟩
          case measure => simp [intOf]; omega
        · gi_wp2_with fail
          go_ret
          exact .inr ⟨rfl, _, HPP.out, hJx⟩
      · have ht2 : ¬ f ≤ (p : Int) + (i : Int) := by omega
        have ht3 : (p : Int) + (i : Int) < f := by omega
        have hd : decide (f ≤ (p : Int) + (i : Int)) = false := by simpa using ht3
        have hd2 : decide ((p : Int) + (i : Int) ≥ f) = false := by simpa using ht3
        have hgt : gotL f p (m.take (i + 1)) = gotL f p (m.take i) := by rw [gotL_take hlt, if_neg ht, List.append_nil]
        have HG : Hid (gotL f p (m.take (i + 1)) = gotL f p (m.take i)) := Lib.hid hgt
        clear hgt
        gi_wp2_with fail
        refine ⟨trivial, ?_⟩
        gi_wp2_with fail
        refine ⟨fun _ h => (by cases h), ?_⟩
        gi_wp2_with fail
        go_roundw
        case rel =>
          have hb4 := (Below.refl wr.heap.size wr).alloc (Nat.le_refl _) (.cells #[.int .i64 (itemAt m i).kind, .int .i64 (itemAt m i).num, .string (itemAt m i).text, .slice A1 (itemAt m i).items.length cap1] 31)
          exact ⟨i + 1, by go_num, by omega, Lib.hid (by rw [HG.out]; exact HJ.out _ _ _ HI.out hb4), hag.trans (Agree.below hb4 (Nat.le_trans hB hag.1))⟩
        case measure => simp [intOf]; omega
    · obtain rfl : i = m.length := by omega
      rw [List.take_length] at HI
      gi_wp2_with fail
      go_ret
      exact .inl ⟨rfl, HI.out, hag⟩
end Go.Proofs.YtaeldfnihocljaaDoor
