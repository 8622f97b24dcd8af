/- What the value layer computes, as plain functions on trees: right values, equal values. -/
import Derived.Test.YtaeldfnihocljaaDoorUtf
set_option linter.unusedVariables false
namespace Go.Proofs.YtaeldfnihocljaaDoor
open Go.RowKit

/-- A value without its items is right. -/
def plainK (k n : Int) (t : ByteArray) : Bool :=
  if (k ≠ 3 ∧ t.size ≠ 0) ∨ (k ≠ 2 ∧ k ≠ 1 ∧ n ≠ 0) then false
  else if k = 1 then decide (n = 0 ∨ n = 1)
  else if k = 3 then decide (t.size ≤ 256) && utfFrom t 0
  else decide (0 ≤ k ∧ k ≤ 6)
def plainB (x : V) : Bool := plainK x.kind x.num x.text
/-- From place i on, each item stands behind the one that is k + 1 ahead of it. -/
def ascFrom (k : Nat) (l : List V) (i : Nat) : Bool :=
  if i < l.length then (if 0 ≤ cmpV (itemAt l (i - (k + 1))) (itemAt l i) then false else ascFrom k l (i + (k + 1))) else true
termination_by l.length - i
theorem ascFrom_end {k : Nat} {l : List V} {i : Nat} (h : l.length ≤ i) : ascFrom k l i = true := by rw [ascFrom, if_neg (by omega)]
theorem ascFrom_bad {k : Nat} {l : List V} {i : Nat} (h : i < l.length) (hc : 0 ≤ cmpV (itemAt l (i - (k + 1))) (itemAt l i)) : ascFrom k l i = false := by rw [ascFrom, if_pos h, if_pos hc]
theorem ascFrom_good {k : Nat} {l : List V} {i : Nat} (h : i < l.length) (hc : cmpV (itemAt l (i - (k + 1))) (itemAt l i) < 0) : ascFrom k l i = ascFrom k l (i + (k + 1)) := by rw [ascFrom, if_pos h, if_neg (by omega)]
/-- A value's items are in their form. -/
def formK (k : Int) (l : List V) : Bool :=
  if k = 4 then true
  else if k = 6 then (if l.length % 2 = 1 then false else ascFrom 1 l 2)
  else if k = 5 then ascFrom 0 l 1
  else decide (l.length = 0)
def formB (x : V) : Bool := formK x.kind x.items
def okB (x : V) : Bool := plainB x && formB x

mutual
def okAll : V → Bool
  | .mk k n t l => okB (.mk k n t l) && okAlls l
def okAlls : List V → Bool
  | [] => true
  | x :: xs => okAll x && okAlls xs
end
mutual
def depthV : V → Nat
  | .mk _ _ _ l => depthL l
def depthL : List V → Nat
  | [] => 0
  | x :: xs => max (1 + depthV x) (depthL xs)
end
theorem okAll_eq (x : V) : okAll x = (okB x && okAlls x.items) := by cases x; rw [okAll]; rfl
theorem depthV_eq (x : V) : depthV x = depthL x.items := by cases x; rw [depthV]; rfl
theorem size_eq (x : V) : V.size x = 1 + V.sizes x.items := by cases x; rw [V.size]; rfl
theorem length_sizes (l : List V) : l.length ≤ V.sizes l := by
  induction l with
  | nil => simp [V.sizes]
  | cons x xs ih => have := V.size_pos x; simp only [V.sizes, List.length_cons]; omega

/-- Is a value right? Its parts are V.size. -/
def okIn (x : V) (deep most : Int) : Prop := okAll x = true ∧ (depthV x : Int) ≤ deep ∧ (V.size x : Int) ≤ most
def okInL (l : List V) (deep most : Int) : Prop := okAlls l = true ∧ (∀ x ∈ l, (depthV x : Int) ≤ deep) ∧ (V.sizes l : Int) ≤ most
instance (x : V) (d m : Int) : Decidable (okIn x d m) := by unfold okIn; infer_instance
instance (l : List V) (d m : Int) : Decidable (okInL l d m) := by unfold okInL; infer_instance
/-- The program's count. -/
def countV (x : V) (deep most : Int) : Int := if okIn x deep most then V.size x else 0
/-- The reference's. -/
def fitsV (x : V) (deep most : Int) : Int := if okIn x deep most then V.size x else -1
def rightB (x : V) : Bool := decide (okIn x 16 1024)
theorem countV_pos (x : V) (d m : Int) : 0 < countV x d m ↔ okIn x d m := by
  unfold countV
  have := V.size_pos x
  split <;> simp_all
theorem countV_zero (x : V) (d m : Int) : countV x d m = 0 ↔ ¬ okIn x d m := by
  unfold countV
  have := V.size_pos x
  split <;> simp_all <;> omega
theorem fitsV_neg (x : V) (d m : Int) : fitsV x d m < 0 ↔ ¬ okIn x d m := by
  unfold fitsV
  have := V.size_pos x
  split <;> simp_all <;> omega
theorem depthL_le {l : List V} {d : Nat} : depthL l ≤ d ↔ ∀ x ∈ l, 1 + depthV x ≤ d := by
  induction l with
  | nil => simp [depthL]
  | cons x xs ih => simp only [depthL, Nat.max_le, ih, List.mem_cons, forall_eq_or_imp]
/-- Right, by its items. -/
theorem okIn_iff (x : V) (d m : Int) (hd : 0 ≤ d) : okIn x d m ↔ okB x = true ∧ (x.items.length = 0 ∨ d ≠ 0) ∧ okInL x.items (d - 1) (m - 1) ∧ 1 ≤ m := by
  unfold okIn okInL
  rw [okAll_eq, depthV_eq, size_eq]
  have h0 : (depthL x.items : Int) ≤ d ↔ ∀ y ∈ x.items, (depthV y : Int) ≤ d - 1 := by
    have := depthL_le (l := x.items) (d := d.toNat)
    constructor
    · intro h y hy
      have := this.1 (by omega) y hy
      omega
    · intro h
      have := this.2 (fun y hy => by have := h y hy; omega)
      omega
  have h1 : (∀ y ∈ x.items, (depthV y : Int) ≤ d - 1) → x.items.length = 0 ∨ d ≠ 0 := by
    intro h
    rcases hl : x.items with _ | ⟨y, ys⟩
    · exact .inl rfl
    · have := h y (by rw [hl]; exact List.mem_cons_self ..)
      exact .inr (by omega)
  simp only [Bool.and_eq_true]
  rw [h0]
  constructor
  · rintro ⟨⟨a, b⟩, c, e⟩
    exact ⟨a, h1 c, ⟨b, c, by omega⟩, by omega⟩
  · rintro ⟨a, _, ⟨b, c, e⟩, _⟩
    exact ⟨⟨a, b⟩, c, by omega⟩
theorem okInL_take {l : List V} {i : Nat} (hi : i < l.length) (d m : Int) : okInL (l.take (i + 1)) d m ↔ okInL (l.take i) d (m - V.size (itemAt l i)) ∧ okIn (itemAt l i) d (m - V.sizes (l.take i)) := by
  rw [itemAt_take hi]
  unfold okInL okIn
  have h1 : ∀ a b : List V, okAlls (a ++ b) = (okAlls a && okAlls b) := by
    intro a b
    induction a with
    | nil => simp [okAlls]
    | cons x xs ih => simp only [List.cons_append, okAlls, ih, Bool.and_assoc]
  have h2 : ∀ a b : List V, V.sizes (a ++ b) = V.sizes a + V.sizes b := by
    intro a b
    induction a with
    | nil => simp [V.sizes]
    | cons x xs ih => simp only [List.cons_append, V.sizes, ih]; omega
  rw [h1, h2]
  simp only [Bool.and_eq_true, okAlls, V.sizes, Bool.and_true, List.mem_append, List.mem_singleton]
  constructor
  · rintro ⟨⟨a, b⟩, c, e⟩
    exact ⟨⟨a, fun x hx => c x (.inl hx), by omega⟩, b, c _ (.inr rfl), by omega⟩
  · rintro ⟨⟨a, b, c⟩, e, f, g⟩
    refine ⟨⟨a, e⟩, ?_, by omega⟩
    rintro x (hx | rfl)
    · exact b x hx
    · exact f
theorem sizes_take {l : List V} {i : Nat} (hi : i < l.length) : V.sizes (l.take (i + 1)) = V.sizes (l.take i) + V.size (itemAt l i) := by
  rw [itemAt_take hi]
  have h2 : ∀ a b : List V, V.sizes (a ++ b) = V.sizes a + V.sizes b := by
    intro a b
    induction a with
    | nil => simp [V.sizes]
    | cons x xs ih => simp only [List.cons_append, V.sizes, ih]; omega
  rw [h2]
  simp [V.sizes]

mutual
def eqV : V → V → Bool
  | .mk k n t l, .mk k' n' t' l' => decide (k = k') && decide (n = n') && decide (t = t') && eqL l l'
def eqL : List V → List V → Bool
  | [], [] => true
  | x :: xs, y :: ys => eqV x y && eqL xs ys
  | _, _ => false
end
mutual
theorem eqV_iff : ∀ (x y : V), eqV x y = true ↔ x = y
  | .mk k n t l, .mk k' n' t' l' => by
    simp only [eqV, Bool.and_eq_true, decide_eq_true_eq, V.mk.injEq, eqL_iff l l', and_assoc]
theorem eqL_iff : ∀ (a b : List V), eqL a b = true ↔ a = b
  | [], [] => by simp [eqL]
  | [], _ :: _ => by simp [eqL]
  | _ :: _, [] => by simp [eqL]
  | x :: xs, y :: ys => by simp only [eqL, Bool.and_eq_true, eqV_iff x y, eqL_iff xs ys, List.cons.injEq]
end
theorem eqV_self (x : V) : eqV x x = true := (eqV_iff x x).2 rfl
theorem eqL_self (a : List V) : eqL a a = true := (eqL_iff a a).2 rfl
theorem eqV_eq (x y : V) : eqV x y = (decide (x.kind = y.kind) && decide (x.num = y.num) && decide (x.text = y.text) && eqL x.items y.items) := by cases x; cases y; rw [eqV]; rfl
theorem eqL_length {a b : List V} (h : a.length ≠ b.length) : eqL a b = false := by
  rw [← Bool.not_eq_true, eqL_iff]
  rintro rfl
  exact h rfl
theorem eqL_drop {a b : List V} {i : Nat} (ha : i < a.length) (hb : i < b.length) : eqL (a.drop i) (b.drop i) = (eqV (itemAt a i) (itemAt b i) && eqL (a.drop (i + 1)) (b.drop (i + 1))) := by
  rw [itemAt_drop ha, itemAt_drop hb, eqL]
theorem eqL_drop_end {a b : List V} {i : Nat} (h : a.length = b.length) (ha : a.length ≤ i) : eqL (a.drop i) (b.drop i) = true := by
  rw [List.drop_eq_nil_of_le ha, List.drop_eq_nil_of_le (by omega), eqL]
end Go.Proofs.YtaeldfnihocljaaDoor
