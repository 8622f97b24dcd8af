/- UTF-8: the program's look and the reference's. -/
import Derived.Test.YtaeldfnihocljaaDoorProg
import Derived.Test.YtaeldfnihocljaaDoorSpec
import Derived.Test.YtaeldfnihocljaaDoorShelf
import Derived.Lib.OthersKept
import Derived.Lib.DecodeN
import Derived.Lib.RuneCount
import Derived.Lib.RuneCountTail
import Derived.Lib.TrimU
set_option linter.unusedVariables false
set_option linter.unusedSimpArgs false
namespace Go.Proofs.YtaeldfnihocljaaDoor
open Go.RowKit Go.Shelf

/-- From a place on, no letter is one that stands for wrong bytes. -/
def utfFrom (s : ByteArray) (pos : Nat) : Bool :=
  if h : pos < s.size then (if Utf8.decode s pos = (65533, 1) then false else utfFrom s (pos + (Utf8.decode s pos).2)) else true
termination_by s.size - pos
decreasing_by have := Lib.decode_width_pos s pos h; omega
theorem utfFrom_end {s : ByteArray} {pos : Nat} (h : ¬ pos < s.size) : utfFrom s pos = true := by rw [utfFrom, dif_neg h]
theorem utfFrom_bad {s : ByteArray} {pos : Nat} (h : pos < s.size) (hb : Utf8.decode s pos = (65533, 1)) : utfFrom s pos = false := by rw [utfFrom, dif_pos h, if_pos hb]
theorem utfFrom_good {s : ByteArray} {pos : Nat} (h : pos < s.size) (hb : Utf8.decode s pos ≠ (65533, 1)) : utfFrom s pos = utfFrom s (pos + (Utf8.decode s pos).2) := by rw [utfFrom, dif_pos h, if_neg hb]

theorem decode_tail (s : ByteArray) (pos : Nat) (h : pos < s.size) : Lib.decodeGo (s.extract pos s.size) = Utf8.decode s pos := by
  unfold Lib.decodeGo
  rw [if_neg (by rw [Lib.tail_size]; omega), Lib.tail_decode, Nat.add_zero]
theorem tabs_below {a b : Nat} {w w' : World} (h : Lib.Utf8Tabs a b w) (hb : Below w.heap.size w w') : Lib.Utf8Tabs a b w' := Utf8Tabs_below h hb

theorem utf_calls (s : ByteArray) (w : World) (hs : s.size ≤ 140737488355328) (hT : Lib.Utf8Tabs 0 1 w) :
    Calls Tryd.prog 75 #[.string s] w fun e w' => e = .returned (.bool (utfFrom s 0)) ∧ Below w.heap.size w w' := by
  have HT := Lib.hid hT
  clear hT
  obtain ⟨w1, hw1, hB1, hI1⟩ : ∃ w1, w.iter s 0 = w1 ∧ Below w.heap.size w w1 ∧ w1.heap[w.heap.size]? = some (.stringIter s 0) := ⟨_, rfl, (Below.refl _ _).alloc (Nat.le_refl _) _, World.iter_heap _ _ _⟩
  go_enter Tryd.func75, Tryd.ntmps75
  go_wp2_with fail
  have hw1 := Lib.hid hw1
  go_loopw [] (fun wr => ∃ pos : Nat, wr.heap[w.heap.size]? = some (.stringIter s pos) ∧ Hid (utfFrom s pos = utfFrom s 0) ∧ Below w.heap.size w wr) (fun wr => s.size - wr.iterPos w.heap.size)
  case atStart => exact ⟨0, hI1, Lib.hid rfl, hB1⟩
  case round =>
    obtain ⟨pos, hI, hu, hb⟩ := hrel
    clear hw1 hI1 hB1
    by_cases hlt : pos < s.size
    · have hnx := fun ty => Lib.run_next_any_at (P := Tryd.prog) wr w.heap.size s pos ty hI hlt
      have hwd := Lib.width_pos s pos
      have hI2 := Lib.iterAt_heap wr w.heap.size s pos (pos + (Utf8.decode s pos).2) hI
      have hb2 := Lib.below_iterAt hb (Nat.le_refl _) s (pos + (Utf8.decode s pos).2)
      have hp1 : wr.iterPos w.heap.size = pos := by simp [World.iterPos, hI]
      obtain ⟨w2, hw2⟩ : ∃ w2, wr.iterAt w.heap.size s (pos + (Utf8.decode s pos).2) = w2 := ⟨_, rfl⟩
      rw [hw2] at hI2 hb2
      have hp2 : w2.iterPos w.heap.size = pos + (Utf8.decode s pos).2 := by simp [World.iterPos, hI2]
      have HP1 := Lib.hid hp1
      have HP2 := Lib.hid hp2
      have HI2 := Lib.hid hI2
      clear hp1 hp2 hI2
      have hD := Tryd.utf8_DecodeRuneInString (s.extract pos s.size) w2 (tabs_below HT.out hb2)
      rw [decode_tail s pos hlt] at hD
      have HD := Lib.hid hD
      clear hD
      by_cases h1 : (Utf8.decode s pos).1 = 65533
      · have h1' : (((Utf8.decode s pos).1 : Int) == 65533) = true := by rw [h1]; rfl
        by_cases h2 : (Utf8.decode s pos).2 = 1
        · have h2' : (((Utf8.decode s pos).2 : Int) == 1) = true := by rw [h2]; rfl
          have hbad : Utf8.decode s pos = (65533, 1) := Prod.ext h1 h2
          have HU : Hid (utfFrom s 0 = false) := Lib.hid (by rw [← hu.out, utfFrom_bad hlt hbad])
          clear h1 h2 hbad
          go_wp2_with (go_at_call 79; refine HD.out.mono ?_; rintro e w3 ⟨rfl, hb3⟩)
          go_ret
          exact ⟨ret_b HU.out.symm, below_then hb2 hb2.size hb3⟩
        · have h2' : (((Utf8.decode s pos).2 : Int) == 1) = false := by simp; omega
          have hgood : Hid (Utf8.decode s pos ≠ (65533, 1)) := Lib.hid fun e => h2 (by rw [e])
          clear h1 h2
          go_wp2_with (go_at_call 79; refine HD.out.mono ?_; rintro e w3 ⟨rfl, hb3⟩)
          go_roundw
          case rel => exact ⟨pos + (Utf8.decode s pos).2, (hb3.block _ (Array.getElem?_eq_some_iff.1 HI2.out).1).trans HI2.out, Lib.hid (by rw [← hu.out, utfFrom_good hlt hgood.out]), below_then hb2 hb2.size hb3⟩
          case measure =>
            have : w3.iterPos w.heap.size = pos + (Utf8.decode s pos).2 := by simp [World.iterPos, (hb3.block _ (Array.getElem?_eq_some_iff.1 HI2.out).1).trans HI2.out]
            rw [this, HP1.out]; omega
      · have h1' : (((Utf8.decode s pos).1 : Int) == 65533) = false := by simp; omega
        have hgood : Hid (Utf8.decode s pos ≠ (65533, 1)) := Lib.hid fun e => h1 (by rw [e])
        clear h1
        go_wp2_with fail
        go_roundw
        case rel => exact ⟨pos + (Utf8.decode s pos).2, HI2.out, Lib.hid (by rw [← hu.out, utfFrom_good hlt hgood.out]), hb2⟩
        case measure => rw [HP2.out, HP1.out]; omega
    · have hnx := fun ty => Lib.run_next_end_at (P := Tryd.prog) wr w.heap.size s pos ty hI hlt
      have HU : Hid (utfFrom s 0 = true) := Lib.hid (by rw [← hu.out, utfFrom_end hlt])
      go_wp2_with fail
      go_ret
      exact ⟨ret_b HU.out.symm, hb⟩
end Go.Proofs.YtaeldfnihocljaaDoor
