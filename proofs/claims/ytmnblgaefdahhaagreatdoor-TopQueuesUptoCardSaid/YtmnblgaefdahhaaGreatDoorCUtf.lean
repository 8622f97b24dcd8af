/- UTF-8: the program's look and the reference's. UTF-8: the reference's look at one letter, and at all. What the value layer computes, as plain functions on trees: right values, equal values. Is one part of a value right? By its kind. -/
import Derived.Test.YtmnblgaefdahhaaGreatDoorProg
import Derived.Test.YtmnblgaefdahhaaGreatDoorShelf
import Derived.Lib.OthersKept
import Derived.Lib.DecodeN
import Derived.Lib.RuneCount
import Derived.Lib.RuneCountTail
import Derived.Lib.TrimU
import Derived.Test.YtmnblgaefdahhaaGreatDoorCBase
/- UTF-8: the program's look and the reference's. -/
set_option linter.unusedVariables false
set_option linter.unusedSimpArgs false
namespace Go.Proofs.YtmnblgaefdahhaaGreatDoor
open Go.RowKit Go.Shelf

/-- From a place on, no letter is one that stands for wrong bytes. -/
def utfFrom (s : ByteArray) (pos : Nat) : Bool :=
  if h : pos < s.size then (if Utf8.decode s pos = (65533, 1) then false else utfFrom s (pos + (Utf8.decode s pos).2)) else true
termination_by s.size - pos
decreasing_by have := Lib.decode_width_pos s pos h; omega
theorem utfFrom_end {s : ByteArray} {pos : Nat} (h : ¬ pos < s.size) : utfFrom s pos = true := by rw [utfFrom, dif_neg h]
theorem utfFrom_bad {s : ByteArray} {pos : Nat} (h : pos < s.size) (hb : Utf8.decode s pos = (65533, 1)) : utfFrom s pos = false := by rw [utfFrom, dif_pos h, if_pos hb]
theorem utfFrom_good {s : ByteArray} {pos : Nat} (h : pos < s.size) (hb : Utf8.decode s pos ≠ (65533, 1)) : utfFrom s pos = utfFrom s (pos + (Utf8.decode s pos).2) := by rw [utfFrom, dif_pos h, if_neg hb]

theorem decode_tail (s : ByteArray) (pos : Nat) (h : pos < s.size) : Lib.decodeGo (s.extract pos s.size) = Utf8.decode s pos := by
  unfold Lib.decodeGo
  rw [if_neg (by rw [Lib.tail_size]; omega), Lib.tail_decode, Nat.add_zero]
theorem tabs_below {a b : Nat} {w w' : World} (h : Lib.Utf8Tabs a b w) (hb : Below w.heap.size w w') : Lib.Utf8Tabs a b w' := Utf8Tabs_below h hb

theorem utf_calls (s : ByteArray) (w : World) (hs : s.size ≤ 140737488355328) (hT : Lib.Utf8Tabs 1 2 w) :
    Calls Tryz.prog 88 #[.string s] w fun e w' => e = .returned (.bool (utfFrom s 0)) ∧ Below w.heap.size w w' := by
  have HT := Lib.hid hT
  clear hT
  obtain ⟨w1, hw1, hB1, hI1⟩ : ∃ w1, w.iter s 0 = w1 ∧ Below w.heap.size w w1 ∧ w1.heap[w.heap.size]? = some (.stringIter s 0) := ⟨_, rfl, (Below.refl _ _).alloc (Nat.le_refl _) _, World.iter_heap _ _ _⟩
  go_enter Tryz.func88, Tryz.ntmps88
  go_wp2_with fail
  have hw1 := Lib.hid hw1
  go_loopw [] (fun wr => ∃ pos : Nat, wr.heap[w.heap.size]? = some (.stringIter s pos) ∧ Hid (utfFrom s pos = utfFrom s 0) ∧ Below w.heap.size w wr) (fun wr => s.size - wr.iterPos w.heap.size)
  case atStart => exact ⟨0, hI1, Lib.hid rfl, hB1⟩
  case round =>
    obtain ⟨pos, hI, hu, hb⟩ := hrel
    clear hw1 hI1 hB1
    by_cases hlt : pos < s.size
    · have hnx := fun ty => Lib.run_next_any_at (P := Tryz.prog) wr w.heap.size s pos ty hI hlt
      have hwd := Lib.width_pos s pos
      have hI2 := Lib.iterAt_heap wr w.heap.size s pos (pos + (Utf8.decode s pos).2) hI
      have hb2 := Lib.below_iterAt hb (Nat.le_refl _) s (pos + (Utf8.decode s pos).2)
      have hp1 : wr.iterPos w.heap.size = pos := by simp [World.iterPos, hI]
      obtain ⟨w2, hw2⟩ : ∃ w2, wr.iterAt w.heap.size s (pos + (Utf8.decode s pos).2) = w2 := ⟨_, rfl⟩
      rw [hw2] at hI2 hb2
      have hp2 : w2.iterPos w.heap.size = pos + (Utf8.decode s pos).2 := by simp [World.iterPos, hI2]
      have HP1 := Lib.hid hp1
      have HP2 := Lib.hid hp2
      have HI2 := Lib.hid hI2
      clear hp1 hp2 hI2
      have hD := Tryz.utf8_DecodeRuneInString (s.extract pos s.size) w2 (tabs_below HT.out hb2)
      rw [decode_tail s pos hlt] at hD
      have HD := Lib.hid hD
      clear hD
      by_cases h1 : (Utf8.decode s pos).1 = 65533
      · have h1' : (((Utf8.decode s pos).1 : Int) == 65533) = true := by rw [h1]; rfl
        by_cases h2 : (Utf8.decode s pos).2 = 1
        · have h2' : (((Utf8.decode s pos).2 : Int) == 1) = true := by rw [h2]; rfl
          have hbad : Utf8.decode s pos = (65533, 1) := Prod.ext h1 h2
          have HU : Hid (utfFrom s 0 = false) := Lib.hid (by rw [← hu.out, utfFrom_bad hlt hbad])
          clear h1 h2 hbad
          go_wp2_with (go_at_call 96; refine HD.out.mono ?_; rintro e w3 ⟨rfl, hb3⟩)
          go_ret
          exact ⟨ret_b HU.out.symm, below_then hb2 hb2.size hb3⟩
        · have h2' : (((Utf8.decode s pos).2 : Int) == 1) = false := by simp; omega
          have hgood : Hid (Utf8.decode s pos ≠ (65533, 1)) := Lib.hid fun e => h2 (by rw [e])
          clear h1 h2
          go_wp2_with (go_at_call 96; refine HD.out.mono ?_; rintro e w3 ⟨rfl, hb3⟩)
          go_roundw
          case rel => exact ⟨pos + (Utf8.decode s pos).2, (hb3.block _ (Array.getElem?_eq_some_iff.1 HI2.out).1).trans HI2.out, Lib.hid (by rw [← hu.out, utfFrom_good hlt hgood.out]), below_then hb2 hb2.size hb3⟩
          case measure =>
            have : w3.iterPos w.heap.size = pos + (Utf8.decode s pos).2 := by simp [World.iterPos, (hb3.block _ (Array.getElem?_eq_some_iff.1 HI2.out).1).trans HI2.out]
            rw [this, HP1.out]; omega
      · have h1' : (((Utf8.decode s pos).1 : Int) == 65533) = false := by simp; omega
        have hgood : Hid (Utf8.decode s pos ≠ (65533, 1)) := Lib.hid fun e => h1 (by rw [e])
        clear h1
        go_wp2_with fail
        go_roundw
        case rel => exact ⟨pos + (Utf8.decode s pos).2, HI2.out, Lib.hid (by rw [← hu.out, utfFrom_good hlt hgood.out]), hb2⟩
        case measure => rw [HP2.out, HP1.out]; omega
    · have hnx := fun ty => Lib.run_next_end_at (P := Tryz.prog) wr w.heap.size s pos ty hI hlt
      have HU : Hid (utfFrom s 0 = true) := Lib.hid (by rw [← hu.out, utfFrom_end hlt])
      go_wp2_with fail
      go_ret
      exact ⟨ret_b HU.out.symm, hb⟩
end Go.Proofs.YtmnblgaefdahhaaGreatDoor

/- UTF-8: the reference's look at one letter, and at all. -/
set_option linter.unusedVariables false
set_option linter.unusedSimpArgs false
namespace Go.Proofs.YtmnblgaefdahhaaGreatDoor
open Go.RowKit Go.Shelf

def byteAt (s : ByteArray) (j : Nat) : Nat := (s.get! j).toNat
theorem byteAt_eq (s : ByteArray) (j : Nat) (h : j < s.size) : (s[j]'h).toNat = byteAt s j := by
  have := get_at s j h
  rw [Nat.add_zero] at this
  rw [byteAt, this]
theorem byteAt_lt (s : ByteArray) (j : Nat) : byteAt s j < 256 := UInt8.toNat_lt _
theorem decode_byteAt (s : ByteArray) (p : Nat) : Utf8.decode s p = Lib.decodeN (s.size - p) (byteAt s p) (byteAt s (p + 1)) (byteAt s (p + 2)) (byteAt s (p + 3)) := Lib.decode_at s p
end Go.Proofs.YtmnblgaefdahhaaGreatDoor

/- What the value layer computes, as plain functions on trees: right values, equal values. -/
set_option linter.unusedVariables false
namespace Go.Proofs.YtmnblgaefdahhaaGreatDoor
open Go.RowKit

/-- A value without its items is right. -/
def plainK (k n : Int) (t : ByteArray) : Bool :=
  if (k ≠ 3 ∧ t.size ≠ 0) ∨ (k ≠ 2 ∧ k ≠ 1 ∧ n ≠ 0) then false
  else if k = 1 then decide (n = 0 ∨ n = 1)
  else if k = 3 then decide (t.size ≤ 256) && utfFrom t 0
  else decide (0 ≤ k ∧ k ≤ 6)
def plainB (x : V) : Bool := plainK x.kind x.num x.text
/-- From place i on, each item stands behind the one that is k + 1 ahead of it. -/
def ascFrom (k : Nat) (l : List V) (i : Nat) : Bool :=
  if i < l.length then (if 0 ≤ cmpV (itemAt l (i - (k + 1))) (itemAt l i) then false else ascFrom k l (i + (k + 1))) else true
termination_by l.length - i
theorem ascFrom_end {k : Nat} {l : List V} {i : Nat} (h : l.length ≤ i) : ascFrom k l i = true := by rw [ascFrom, if_neg (by omega)]
theorem ascFrom_bad {k : Nat} {l : List V} {i : Nat} (h : i < l.length) (hc : 0 ≤ cmpV (itemAt l (i - (k + 1))) (itemAt l i)) : ascFrom k l i = false := by rw [ascFrom, if_pos h, if_pos hc]
theorem ascFrom_good {k : Nat} {l : List V} {i : Nat} (h : i < l.length) (hc : cmpV (itemAt l (i - (k + 1))) (itemAt l i) < 0) : ascFrom k l i = ascFrom k l (i + (k + 1)) := by rw [ascFrom, if_pos h, if_neg (by omega)]
/-- A value's items are in their form. -/
def formK (k : Int) (l : List V) : Bool :=
  if k = 4 then true
  else if k = 6 then (if l.length % 2 = 1 then false else ascFrom 1 l 2)
  else if k = 5 then ascFrom 0 l 1
  else decide (l.length = 0)
def formB (x : V) : Bool := formK x.kind x.items
def okB (x : V) : Bool := plainB x && formB x

mutual
def okAll : V → Bool
  | .mk k n t l => okB (.mk k n t l) && okAlls l
def okAlls : List V → Bool
  | [] => true
  | x :: xs => okAll x && okAlls xs
end
mutual
def depthV : V → Nat
  | .mk _ _ _ l => depthL l
def depthL : List V → Nat
  | [] => 0
  | x :: xs => max (1 + depthV x) (depthL xs)
end
theorem okAll_eq (x : V) : okAll x = (okB x && okAlls x.items) := by cases x; rw [okAll]; rfl
theorem depthV_eq (x : V) : depthV x = depthL x.items := by cases x; rw [depthV]; rfl
theorem size_eq (x : V) : V.size x = 1 + V.sizes x.items := by cases x; rw [V.size]; rfl
theorem length_sizes (l : List V) : l.length ≤ V.sizes l := by
  induction l with
  | nil => simp [V.sizes]
  | cons x xs ih => have := V.size_pos x; simp only [V.sizes, List.length_cons]; omega

/-- Is a value right? Its parts are V.size. -/
def okIn (x : V) (deep most : Int) : Prop := okAll x = true ∧ (depthV x : Int) ≤ deep ∧ (V.size x : Int) ≤ most
def okInL (l : List V) (deep most : Int) : Prop := okAlls l = true ∧ (∀ x ∈ l, (depthV x : Int) ≤ deep) ∧ (V.sizes l : Int) ≤ most
instance (x : V) (d m : Int) : Decidable (okIn x d m) := by unfold okIn; infer_instance
instance (l : List V) (d m : Int) : Decidable (okInL l d m) := by unfold okInL; infer_instance
/-- The program's count. -/
def countV (x : V) (deep most : Int) : Int := if okIn x deep most then V.size x else 0
/-- The reference's. -/
def fitsV (x : V) (deep most : Int) : Int := if okIn x deep most then V.size x else -1
def rightB (x : V) : Bool := decide (okIn x 16 1024)
theorem countV_pos (x : V) (d m : Int) : 0 < countV x d m ↔ okIn x d m := by
  unfold countV
  have := V.size_pos x
  split <;> simp_all
theorem countV_zero (x : V) (d m : Int) : countV x d m = 0 ↔ ¬ okIn x d m := by
  unfold countV
  have := V.size_pos x
  split <;> simp_all <;> omega
theorem fitsV_neg (x : V) (d m : Int) : fitsV x d m < 0 ↔ ¬ okIn x d m := by
  unfold fitsV
  have := V.size_pos x
  split <;> simp_all <;> omega
theorem depthL_le {l : List V} {d : Nat} : depthL l ≤ d ↔ ∀ x ∈ l, 1 + depthV x ≤ d := by
  induction l with
  | nil => simp [depthL]
  | cons x xs ih => simp only [depthL, Nat.max_le, ih, List.mem_cons, forall_eq_or_imp]
/-- Right, by its items. -/
theorem okIn_iff (x : V) (d m : Int) (hd : 0 ≤ d) : okIn x d m ↔ okB x = true ∧ (x.items.length = 0 ∨ d ≠ 0) ∧ okInL x.items (d - 1) (m - 1) ∧ 1 ≤ m := by
  unfold okIn okInL
  rw [okAll_eq, depthV_eq, size_eq]
  have h0 : (depthL x.items : Int) ≤ d ↔ ∀ y ∈ x.items, (depthV y : Int) ≤ d - 1 := by
    have := depthL_le (l := x.items) (d := d.toNat)
    constructor
    · intro h y hy
      have := this.1 (by omega) y hy
      omega
    · intro h
      have := this.2 (fun y hy => by have := h y hy; omega)
      omega
  have h1 : (∀ y ∈ x.items, (depthV y : Int) ≤ d - 1) → x.items.length = 0 ∨ d ≠ 0 := by
    intro h
    rcases hl : x.items with _ | ⟨y, ys⟩
    · exact .inl rfl
    · have := h y (by rw [hl]; exact List.mem_cons_self ..)
      exact .inr (by omega)
  simp only [Bool.and_eq_true]
  rw [h0]
  constructor
  · rintro ⟨⟨a, b⟩, c, e⟩
    exact ⟨a, h1 c, ⟨b, c, by omega⟩, by omega⟩
  · rintro ⟨a, _, ⟨b, c, e⟩, _⟩
    exact ⟨⟨a, b⟩, c, by omega⟩
theorem okInL_take {l : List V} {i : Nat} (hi : i < l.length) (d m : Int) : okInL (l.take (i + 1)) d m ↔ okInL (l.take i) d (m - V.size (itemAt l i)) ∧ okIn (itemAt l i) d (m - V.sizes (l.take i)) := by
  rw [itemAt_take hi]
  unfold okInL okIn
  have h1 : ∀ a b : List V, okAlls (a ++ b) = (okAlls a && okAlls b) := by
    intro a b
    induction a with
    | nil => simp [okAlls]
    | cons x xs ih => simp only [List.cons_append, okAlls, ih, Bool.and_assoc]
  have h2 : ∀ a b : List V, V.sizes (a ++ b) = V.sizes a + V.sizes b := by
    intro a b
    induction a with
    | nil => simp [V.sizes]
    | cons x xs ih => simp only [List.cons_append, V.sizes, ih]; omega
  rw [h1, h2]
  simp only [Bool.and_eq_true, okAlls, V.sizes, Bool.and_true, List.mem_append, List.mem_singleton]
  constructor
  · rintro ⟨⟨a, b⟩, c, e⟩
    exact ⟨⟨a, fun x hx => c x (.inl hx), by omega⟩, b, c _ (.inr rfl), by omega⟩
  · rintro ⟨⟨a, b, c⟩, e, f, g⟩
    refine ⟨⟨a, e⟩, ?_, by omega⟩
    rintro x (hx | rfl)
    · exact b x hx
    · exact f
theorem sizes_take {l : List V} {i : Nat} (hi : i < l.length) : V.sizes (l.take (i + 1)) = V.sizes (l.take i) + V.size (itemAt l i) := by
  rw [itemAt_take hi]
  have h2 : ∀ a b : List V, V.sizes (a ++ b) = V.sizes a + V.sizes b := by
    intro a b
    induction a with
    | nil => simp [V.sizes]
    | cons x xs ih => simp only [List.cons_append, V.sizes, ih]; omega
  rw [h2]
  simp [V.sizes]

mutual
def eqV : V → V → Bool
  | .mk k n t l, .mk k' n' t' l' => decide (k = k') && decide (n = n') && decide (t = t') && eqL l l'
def eqL : List V → List V → Bool
  | [], [] => true
  | x :: xs, y :: ys => eqV x y && eqL xs ys
  | _, _ => false
end
mutual
theorem eqV_iff : ∀ (x y : V), eqV x y = true ↔ x = y
  | .mk k n t l, .mk k' n' t' l' => by
    simp only [eqV, Bool.and_eq_true, decide_eq_true_eq, V.mk.injEq, eqL_iff l l', and_assoc]
theorem eqL_iff : ∀ (a b : List V), eqL a b = true ↔ a = b
  | [], [] => by simp [eqL]
  | [], _ :: _ => by simp [eqL]
  | _ :: _, [] => by simp [eqL]
  | x :: xs, y :: ys => by simp only [eqL, Bool.and_eq_true, eqV_iff x y, eqL_iff xs ys, List.cons.injEq]
end
theorem eqV_self (x : V) : eqV x x = true := (eqV_iff x x).2 rfl
theorem eqL_self (a : List V) : eqL a a = true := (eqL_iff a a).2 rfl
theorem eqV_eq (x y : V) : eqV x y = (decide (x.kind = y.kind) && decide (x.num = y.num) && decide (x.text = y.text) && eqL x.items y.items) := by cases x; cases y; rw [eqV]; rfl
theorem eqL_length {a b : List V} (h : a.length ≠ b.length) : eqL a b = false := by
  rw [← Bool.not_eq_true, eqL_iff]
  rintro rfl
  exact h rfl
theorem eqL_drop {a b : List V} {i : Nat} (ha : i < a.length) (hb : i < b.length) : eqL (a.drop i) (b.drop i) = (eqV (itemAt a i) (itemAt b i) && eqL (a.drop (i + 1)) (b.drop (i + 1))) := by
  rw [itemAt_drop ha, itemAt_drop hb, eqL]
theorem eqL_drop_end {a b : List V} {i : Nat} (h : a.length = b.length) (ha : a.length ≤ i) : eqL (a.drop i) (b.drop i) = true := by
  rw [List.drop_eq_nil_of_le ha, List.drop_eq_nil_of_le (by omega), eqL]
end Go.Proofs.YtmnblgaefdahhaaGreatDoor

/- Is one part of a value right? By its kind. -/
set_option linter.unusedVariables false
namespace Go.Proofs.YtmnblgaefdahhaaGreatDoor
open Go.RowKit

theorem size_nil (t : ByteArray) : t.size = 0 ↔ t.toList = [] := by
  rw [Lib.toList_data]
  have : t.data.toList.length = t.size := by rw [Array.length_toList]; rfl
  rw [← this]
  exact List.length_eq_zero_iff
theorem ok_out {k n : Int} {t : ByteArray} {l : List V} (h : k < 0 ∨ 6 < k) : okB (.mk k n t l) = false := by
  show (plainK k n t && formK k l) = false
  have : plainK k n t = false := by
    unfold plainK
    by_cases h1 : (k ≠ 3 ∧ t.size ≠ 0) ∨ (k ≠ 2 ∧ k ≠ 1 ∧ n ≠ 0)
    · rw [if_pos h1]
    · rw [if_neg h1, if_neg (by omega), if_neg (by omega)]
      simp
      omega
  rw [this]; rfl
theorem ok_0 (n : Int) (t : ByteArray) (l : List V) : okB (.mk 0 n t l) = true ↔ n = 0 ∧ t.size = 0 ∧ l.length = 0 := by
  show (plainK 0 n t && formK 0 l) = true ↔ _
  unfold plainK formK
  by_cases h1 : n = 0 <;> by_cases h2 : t.size = 0 <;> simp [h1, h2]
theorem ok_1 (n : Int) (t : ByteArray) (l : List V) : okB (.mk 1 n t l) = true ↔ (n = 0 ∨ n = 1) ∧ t.size = 0 ∧ l.length = 0 := by
  show (plainK 1 n t && formK 1 l) = true ↔ _
  unfold plainK formK
  by_cases h2 : t.size = 0 <;> simp [h2]
theorem ok_2 (n : Int) (t : ByteArray) (l : List V) : okB (.mk 2 n t l) = true ↔ t.size = 0 ∧ l.length = 0 := by
  show (plainK 2 n t && formK 2 l) = true ↔ _
  unfold plainK formK
  by_cases h2 : t.size = 0 <;> simp [h2]
theorem ok_3 (n : Int) (t : ByteArray) (l : List V) : okB (.mk 3 n t l) = true ↔ n = 0 ∧ t.size ≤ 256 ∧ utfFrom t 0 = true ∧ l.length = 0 := by
  show (plainK 3 n t && formK 3 l) = true ↔ _
  unfold plainK formK
  by_cases h1 : n = 0 <;> simp [h1, and_assoc]
theorem ok_4 (n : Int) (t : ByteArray) (l : List V) : okB (.mk 4 n t l) = true ↔ n = 0 ∧ t.size = 0 := by
  show (plainK 4 n t && formK 4 l) = true ↔ _
  unfold plainK formK
  by_cases h1 : n = 0 <;> by_cases h2 : t.size = 0 <;> simp [h1, h2]
theorem ok_5 (n : Int) (t : ByteArray) (l : List V) : okB (.mk 5 n t l) = true ↔ n = 0 ∧ t.size = 0 ∧ ascFrom 0 l 1 = true := by
  show (plainK 5 n t && formK 5 l) = true ↔ _
  unfold plainK formK
  by_cases h1 : n = 0 <;> by_cases h2 : t.size = 0 <;> simp [h1, h2]
theorem ok_6 (n : Int) (t : ByteArray) (l : List V) : okB (.mk 6 n t l) = true ↔ n = 0 ∧ t.size = 0 ∧ l.length % 2 = 0 ∧ ascFrom 1 l 2 = true := by
  show (plainK 6 n t && formK 6 l) = true ↔ _
  unfold plainK formK
  by_cases h1 : n = 0 <;> by_cases h2 : t.size = 0 <;> by_cases h3 : l.length % 2 = 1 <;> simp [h1, h2, h3] <;> omega
end Go.Proofs.YtmnblgaefdahhaaGreatDoor
