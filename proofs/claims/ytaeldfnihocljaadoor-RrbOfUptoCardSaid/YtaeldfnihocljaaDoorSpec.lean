/- What the value layer computes, as plain functions on trees: order, right values. -/
import Derived.Test.YtaeldfnihocljaaDoorCore
import Derived.Lib.Bytealg
set_option linter.unusedVariables false
namespace Go.Proofs.YtaeldfnihocljaaDoor
open Go.RowKit

def sgn (a b : Int) : Int := if a < b then -1 else if b < a then 1 else 0
def cmpB (a b : ByteArray) : Int := Lib.compareBytes a.data.toList b.data.toList
mutual
def cmpV : V → V → Int
  | .mk k n t l, .mk k' n' t' l' => if k = k' then (if k = 1 ∨ k = 2 then sgn n n' else if k = 3 then cmpB t t' else if k = 4 ∨ k = 5 ∨ k = 6 then cmpL l l' else 0) else sgn k k'
def cmpL : List V → List V → Int
  | [], [] => 0
  | [], _ :: _ => -1
  | _ :: _, [] => 1
  | x :: xs, y :: ys => if cmpV x y = 0 then cmpL xs ys else cmpV x y
end
theorem cmpV_eq (x y : V) : cmpV x y = if x.kind = y.kind then (if x.kind = 1 ∨ x.kind = 2 then sgn x.num y.num else if x.kind = 3 then cmpB x.text y.text else if x.kind = 4 ∨ x.kind = 5 ∨ x.kind = 6 then cmpL x.items y.items else 0) else sgn x.kind y.kind := by
  cases x; cases y; rw [cmpV]; rfl
theorem cmpL_nil (ys : List V) : cmpL [] ys = if ys.length = 0 then 0 else -1 := by cases ys <;> simp [cmpL]
theorem cmpL_nil_right (x : V) (xs : List V) : cmpL (x :: xs) [] = 1 := by simp [cmpL]
theorem cmpL_cons (x y : V) (xs ys : List V) : cmpL (x :: xs) (y :: ys) = if cmpV x y = 0 then cmpL xs ys else cmpV x y := by simp only [cmpL]
/-- From place i on, both long enough. -/
theorem cmpL_drop {a b : List V} {i : Nat} (ha : i < a.length) (hb : i < b.length) : cmpL (a.drop i) (b.drop i) = if cmpV (itemAt a i) (itemAt b i) = 0 then cmpL (a.drop (i + 1)) (b.drop (i + 1)) else cmpV (itemAt a i) (itemAt b i) := by
  rw [itemAt_drop ha, itemAt_drop hb, cmpL_cons]
theorem cmpL_drop_end {a b : List V} {i : Nat} (ha : a.length ≤ i) (hb : i ≤ b.length) : cmpL (a.drop i) (b.drop i) = if b.length = i then 0 else -1 := by
  rw [List.drop_eq_nil_of_le ha, cmpL_nil, List.length_drop]
  by_cases h : b.length = i
  · rw [if_pos (by omega), if_pos h]
  · rw [if_neg (by omega), if_neg h]
theorem cmpL_drop_more {a b : List V} {i : Nat} (ha : i < a.length) (hb : b.length ≤ i) : cmpL (a.drop i) (b.drop i) = 1 := by
  rw [itemAt_drop ha, List.drop_eq_nil_of_le hb, cmpL_nil_right]
theorem compareBytes_less : ∀ (a b : List UInt8), Lib.compareBytes a b = if Op.bytesLess a b = true then -1 else if (a == b) = true then 0 else 1
  | [], [] => by simp [Lib.compareBytes, Op.bytesLess]
  | [], _ :: _ => by simp [Lib.compareBytes, Op.bytesLess]
  | _ :: _, [] => by simp [Lib.compareBytes, Op.bytesLess]
  | x :: a, y :: b => by
    have ih := compareBytes_less a b
    unfold Lib.compareBytes Op.bytesLess
    by_cases h : x < y
    · simp [h]
    · by_cases h' : y < x
      · have hne : ¬ x = y := fun e => by subst e; exact UInt8.lt_irrefl _ h'
        simp [h, h', hne]
      · have he : x = y := UInt8.le_antisymm (UInt8.not_lt.1 h') (UInt8.not_lt.1 h)
        subst he
        rw [if_neg h, if_neg h, ih]
        simp [h]
theorem cmpB_less (a b : ByteArray) : cmpB a b = if Op.bytesLess a.toList b.toList = true then -1 else if (a.toList == b.toList) = true then 0 else 1 := by
  unfold cmpB
  rw [Lib.toList_data, Lib.toList_data]
  exact compareBytes_less _ _
end Go.Proofs.YtaeldfnihocljaaDoor
