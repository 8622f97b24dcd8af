/- A text in quotes, as the program writes it. -/
import Derived.Lib.TrimU
import Derived.Test.YtoiipdknamgcmaaGreatDoorCTxB

set_option linter.unusedVariables false
set_option linter.unusedSimpArgs false
namespace Go.Proofs.YtoiipdknamgcmaaGreatDoor
open Go.RowKit Go.Shelf
attribute [local go_sem] lt_succ_of

def hexI (k : Int) : Int := if k < 10 then 48 + k else 87 + k
/-- What stands for a letter, by its code. -/
def escR (r : Int) : List Value :=
  if r = 34 ∨ r = 92 then [.int .u8 92] ++ Lib.runeCells r
  else if r = 10 then Lib.strCells ⟨#[92, 110]⟩
  else if r = 9 then Lib.strCells ⟨#[92, 116]⟩
  else if r = 13 then Lib.strCells ⟨#[92, 114]⟩
  else if r < 32 ∨ r = 127 then Lib.strCells ⟨#[92, 117, 48, 48]⟩ ++ [.int .u8 (hexI (r / 16))] ++ [.int .u8 (hexI (r % 16))]
  else Lib.runeCells r
theorem escR_length (r : Int) : (escR r).length ≤ 6 := by
  have := Lib.runeCells_le r
  unfold escR
  repeat' split
  all_goals simp [Lib.strCells_length]
  all_goals first | omega | decide | (show _ ≤ _; simp [ByteArray.size]; done) | skip
def escFrom (s : ByteArray) (pos : Nat) : List Value :=
  if h : pos < s.size then escR (Utf8.decode s pos).1 ++ escFrom s (pos + (Utf8.decode s pos).2) else []
termination_by s.size - pos
decreasing_by have := Lib.decode_width_pos s pos h; omega
theorem escFrom_end {s : ByteArray} {pos : Nat} (h : ¬ pos < s.size) : escFrom s pos = [] := by rw [escFrom, dif_neg h]
theorem escFrom_next {s : ByteArray} {pos : Nat} (h : pos < s.size) : escFrom s pos = escR (Utf8.decode s pos).1 ++ escFrom s (pos + (Utf8.decode s pos).2) := by rw [escFrom, dif_pos h]
/-- The state of the round at a place. -/
def QI (B b I : Nat) (s : ByteArray) (bs : List Value) (w wr : World) (pos : Nat) : Prop := wr.heap[I]? = some (.stringIter s pos) ∧ pos ≤ s.size + 4 ∧ ∃ dn, dn.length ≤ 6 * pos ∧ dn ++ escFrom s pos = escFrom s 0 ∧ Lib.BuilderAtF 43 5 B b (.pointer (some ⟨b, 0, none⟩)) (bs ++ dn) wr ∧ Below B w wr
theorem QI.next {B b I : Nat} {s : ByteArray} {bs dn cs : List Value} {w w2 w' : World} {pos : Nat} (hI : w2.heap[I]? = some (.stringIter s (pos + (Utf8.decode s pos).2))) (hne : I ≠ b) (hlt : pos < s.size) (hl : dn.length ≤ 6 * pos) (hd : dn ++ escFrom s pos = escFrom s 0) (hb : Below B w w2) (hB : B ≤ w2.heap.size) (he : escR (Utf8.decode s pos).1 = cs) (hW : Wrote B b ((bs ++ dn) ++ cs) w2 w') : QI B b I s bs w w' (pos + (Utf8.decode s pos).2) := by
  obtain ⟨h1, h2, h3⟩ := hW
  have hw := Lib.decode_width_pos s pos hlt
  have hc := escR_length (Utf8.decode s pos).1
  rw [he] at hc
  have hw4 := width_le s pos
  refine ⟨h3.iter hI hne, by omega, dn ++ cs, by rw [List.length_append]; omega, ?_, by rw [← List.append_assoc]; exact h1, hb.trans h2⟩
  rw [← hd, escFrom_next hlt, he, List.append_assoc]
theorem QI.pos {B b I : Nat} {s : ByteArray} {bs : List Value} {w w' : World} {p : Nat} (h : QI B b I s bs w w' p) : w'.iterPos I = p := by simp [World.iterPos, h.1]
theorem QI.round {B b I : Nat} {s : ByteArray} {bs dn cs : List Value} {w wr w2 w' : World} {pos : Nat} (hp : wr.iterPos I = pos) (hI : w2.heap[I]? = some (.stringIter s (pos + (Utf8.decode s pos).2))) (hne : I ≠ b) (hlt : pos < s.size) (hl : dn.length ≤ 6 * pos) (hd : dn ++ escFrom s pos = escFrom s 0) (hb : Below B w w2) (hB : B ≤ w2.heap.size) (he : escR (Utf8.decode s pos).1 = cs) (hW : Wrote B b ((bs ++ dn) ++ cs) w2 w') : (∃ pos, Hid (QI B b I s bs w w' pos)) ∧ s.size - w'.iterPos I < s.size - wr.iterPos I := by
  have h := QI.next hI hne hlt hl hd hb hB he hW
  have hw := Lib.decode_width_pos s pos hlt
  refine ⟨⟨_, Lib.hid h⟩, ?_⟩
  rw [h.pos, hp]
  omega
theorem Wrote.trans {B b : Nat} {bs cs : List Value} {w w2 w3 : World} (h : Wrote B b bs w w2) (k : Wrote B b cs w2 w3) : Wrote B b cs w w3 := ⟨k.1, h.2.1.trans k.2.1, h.2.2.trans k.2.2⟩
set_option maxRecDepth 100000 in
set_option maxHeartbeats 8000000 in
theorem quoted_calls (B b : Nat) (bs : List Value) (s : ByteArray) (w : World) (h : Lib.IsBuilderF 43 5 B b bs w) (hs : s.size ≤ 256) (hlen : bs.length ≤ 100000000) (hBw : B ≤ w.heap.size) :
    Calls Tryz.prog 30 #[.pointer (some ⟨b, 0, none⟩), .string s] w fun e w' => (∃ v, e = .returned v) ∧ Lib.BuilderAtF 43 5 B b (.pointer (some ⟨b, 0, none⟩)) (bs ++ [.int .u8 34] ++ escFrom s 0 ++ [.int .u8 34]) w' ∧ Below B w w' := by
  have HB := Lib.hid (wbyte_calls B b bs 34 w h (by omega) hBw)
  clear h
  go_enter Tryz.func30, Tryz.ntmps30
  go_wp2_with (go_at_call 49; refine HB.out.mono ?_; rintro e w1 ⟨rfl, hW1⟩; obtain ⟨wi, hwi, hI0, hBi⟩ : ∃ wi, w1.iter s 0 = wi ∧ wi.heap[w1.heap.size]? = some (.stringIter s 0) ∧ Below w1.heap.size w1 wi := ⟨_, rfl, World.iter_heap _ _ _, (Below.refl _ _).alloc (Nat.le_refl _) _⟩; have HW1 := Lib.hid hW1; have hbl := hW1.1.lt; have HWI := Lib.hid hwi; clear hW1)
  obtain ⟨hbA, hbB, hbC⟩ := HW1.out
  have hB1 := hbB.size
  have hIb : w1.heap.size ≠ b := by omega
  have HQ0 : Hid (QI B b w1.heap.size s (bs ++ [.int .u8 34]) w wi 0) := Lib.hid ⟨hI0, by omega, [], by simp, by simp, by rw [List.append_nil, ← HWI.out]; exact hbA.alloc _, hbB.trans (hBi.mono (by omega))⟩
  clear hbA hbC
  have hw1 := HWI
  go_loopw [] (fun wr => ∃ pos : Nat, Hid (QI B b w1.heap.size s (bs ++ [.int .u8 34]) w wr pos)) (fun wr => s.size - wr.iterPos w1.heap.size)
  case atStart => exact ⟨0, HQ0⟩
  case round =>
    obtain ⟨pos, hq⟩ := hrel
    obtain ⟨hI, hps, dn, hdl, hdd, hbA, hbw⟩ := hq.out
    clear HQ0 hI0 hBi
    by_cases hlt : pos < s.size
    · have hnx := fun ty => Lib.run_next_any_at (P := Tryz.prog) wr w1.heap.size s pos ty hI hlt
      have hwd := Lib.width_pos s pos
      have hrl := Lib.rune_le s pos
      have hI2 := Lib.iterAt_heap wr w1.heap.size s pos (pos + (Utf8.decode s pos).2) hI
      have hb2 := Lib.below_iterAt hbw (show B ≤ w1.heap.size by omega) s (pos + (Utf8.decode s pos).2)
      have hp1 : wr.iterPos w1.heap.size = pos := by simp [World.iterPos, hI]
      have hbA2 := hbA.iterAt hI (pos + (Utf8.decode s pos).2)
      obtain ⟨w2, hw2⟩ : ∃ w2, wr.iterAt w1.heap.size s (pos + (Utf8.decode s pos).2) = w2 := ⟨_, rfl⟩
      rw [hw2] at hI2 hb2 hbA2
      have HP1 := Lib.hid hp1
      have HI2 := Lib.hid hI2
      have HDL := Lib.hid hdl
      have HDD := Lib.hid hdd
      have HB2 := Lib.hid hb2
      have HA2 := Lib.hid hbA2
      have hB2 := hb2.size
      have HLT := Lib.hid hlt
      have hdn : ((bs ++ [Value.int .u8 34]) ++ dn).length ≤ 200000000 := by simp; omega
      have hBw2 : B ≤ w2.heap.size := by omega
      obtain ⟨r, hr⟩ : ∃ r : Nat, (Utf8.decode s pos).1 = r := ⟨_, rfl⟩
      have HR := Lib.hid hr
      have hr2 : ((Utf8.decode s pos).1 : Int) = (r : Int) := by rw [hr]
      rw [hr] at hrl
      clear hp1 hI2 hdl hdd hb2 hbA2 hI hq hbA hr
      by_cases c1 : r = 34 ∨ r = 92
      · rcases c1 with c1 | c1
        · subst c1
          have HE : Hid (escR (Utf8.decode s pos).1 = [.int .u8 92] ++ Lib.runeCells 34) := Lib.hid (by rw [HR.out]; rfl)
          have HC := Lib.hid (wbyte_calls B b ((bs ++ [.int .u8 34]) ++ dn) 92 w2 (.inr HA2.out) (by omega) hBw2)
          go_wp2_with (first
            | (go_at_call 49; refine HC.out.mono ?_; rintro e w3 ⟨rfl, hW⟩; have HW3 := Lib.hid hW; have HC2 := Lib.hid (wrune_calls B b _ 34 (by decide) (by decide) w3 (.inr hW.1) (by rw [List.length_append, List.length_singleton]; omega) (Nat.le_trans hBw2 hW.2.1.size)); clear hW HC)
            | (go_at_call 50; refine HC2.out.mono ?_; rintro e w4 ⟨⟨kk, rfl⟩, hW⟩; have HW := Lib.hid (HW3.out.trans hW); clear hW))
          refine QI.round HP1.out HI2.out hIb HLT.out HDL.out HDD.out HB2.out hBw2 HE.out ?_
          have := HW.out
          rwa [List.append_assoc] at this
        · subst c1
          have HE : Hid (escR (Utf8.decode s pos).1 = [.int .u8 92] ++ Lib.runeCells 92) := Lib.hid (by rw [HR.out]; rfl)
          have HC := Lib.hid (wbyte_calls B b ((bs ++ [.int .u8 34]) ++ dn) 92 w2 (.inr HA2.out) (by omega) hBw2)
          go_wp2_with (first
            | (go_at_call 49; refine HC.out.mono ?_; rintro e w3 ⟨rfl, hW⟩; have HW3 := Lib.hid hW; have HC2 := Lib.hid (wrune_calls B b _ 92 (by decide) (by decide) w3 (.inr hW.1) (by rw [List.length_append, List.length_singleton]; omega) (Nat.le_trans hBw2 hW.2.1.size)); clear hW HC)
            | (go_at_call 50; refine HC2.out.mono ?_; rintro e w4 ⟨⟨kk, rfl⟩, hW⟩; have HW := Lib.hid (HW3.out.trans hW); clear hW))
          refine QI.round HP1.out HI2.out hIb HLT.out HDL.out HDD.out HB2.out hBw2 HE.out ?_
          have := HW.out
          rwa [List.append_assoc] at this
      · have q1 : ((r : Int) == 34) = false := by rw [beq_eq_false_iff_ne]; omega
        have q2 : ((r : Int) == 92) = false := by rw [beq_eq_false_iff_ne]; omega
        by_cases c2 : r = 10
        · subst c2
          have HE : Hid (escR (Utf8.decode s pos).1 = Lib.strCells ⟨#[92, 110]⟩) := Lib.hid (by rw [HR.out]; rfl)
          have HC := Lib.hid (wstring_calls B b ((bs ++ [.int .u8 34]) ++ dn) ⟨#[92, 110]⟩ w2 (.inr HA2.out) (by have : (⟨#[92, 110]⟩ : ByteArray).size = 2 := rfl; omega) hBw2)
          clear hdn
          go_wp2_with (go_at_call 27; refine HC.out.mono ?_; rintro e w3 ⟨rfl, hW⟩; have HW := Lib.hid hW; clear hW)
          exact QI.round HP1.out HI2.out hIb HLT.out HDL.out HDD.out HB2.out hBw2 HE.out HW.out
        · have q3 : ((r : Int) == 10) = false := by rw [beq_eq_false_iff_ne]; omega
          by_cases c3 : r = 9
          · subst c3
            have HE : Hid (escR (Utf8.decode s pos).1 = Lib.strCells ⟨#[92, 116]⟩) := Lib.hid (by rw [HR.out]; rfl)
            have HC := Lib.hid (wstring_calls B b ((bs ++ [.int .u8 34]) ++ dn) ⟨#[92, 116]⟩ w2 (.inr HA2.out) (by have : (⟨#[92, 116]⟩ : ByteArray).size = 2 := rfl; omega) hBw2)
            clear hdn
            go_wp2_with (go_at_call 27; refine HC.out.mono ?_; rintro e w3 ⟨rfl, hW⟩; have HW := Lib.hid hW; clear hW)
            exact QI.round HP1.out HI2.out hIb HLT.out HDL.out HDD.out HB2.out hBw2 HE.out HW.out
          · have q4 : ((r : Int) == 9) = false := by rw [beq_eq_false_iff_ne]; omega
            by_cases c4 : r = 13
            · subst c4
              have HE : Hid (escR (Utf8.decode s pos).1 = Lib.strCells ⟨#[92, 114]⟩) := Lib.hid (by rw [HR.out]; rfl)
              have HC := Lib.hid (wstring_calls B b ((bs ++ [.int .u8 34]) ++ dn) ⟨#[92, 114]⟩ w2 (.inr HA2.out) (by have : (⟨#[92, 114]⟩ : ByteArray).size = 2 := rfl; omega) hBw2)
              clear hdn
              go_wp2_with (go_at_call 27; refine HC.out.mono ?_; rintro e w3 ⟨rfl, hW⟩; have HW := Lib.hid hW; clear hW)
              exact QI.round HP1.out HI2.out hIb HLT.out HDL.out HDD.out HB2.out hBw2 HE.out HW.out
            · have q5 : ((r : Int) == 13) = false := by rw [beq_eq_false_iff_ne]; omega
              by_cases c5 : r < 32 ∨ r = 127
              · have c6 : r = 0 ∨ r = 1 ∨ r = 2 ∨ r = 3 ∨ r = 4 ∨ r = 5 ∨ r = 6 ∨ r = 7 ∨ r = 8 ∨ r = 11 ∨ r = 12 ∨ r = 14 ∨ r = 15 ∨ r = 16 ∨ r = 17 ∨ r = 18 ∨ r = 19 ∨ r = 20 ∨ r = 21 ∨ r = 22 ∨ r = 23 ∨ r = 24 ∨ r = 25 ∨ r = 26 ∨ r = 27 ∨ r = 28 ∨ r = 29 ∨ r = 30 ∨ r = 31 ∨ r = 127 := by omega
                rcases c6 with c6 | c6 | c6 | c6 | c6 | c6 | c6 | c6 | c6 | c6 | c6 | c6 | c6 | c6 | c6 | c6 | c6 | c6 | c6 | c6 | c6 | c6 | c6 | c6 | c6 | c6 | c6 | c6 | c6 | c6
                all_goals
                  subst c6
                  have HC := Lib.hid (wstring_calls B b ((bs ++ [.int .u8 34]) ++ dn) ⟨#[92, 117, 48, 48]⟩ w2 (.inr HA2.out) (by have : (⟨#[92, 117, 48, 48]⟩ : ByteArray).size = 4 := rfl; omega) hBw2)
                  have HDN := Lib.hid hdn
                  clear hdn hrl c1 c2 c3 c4 c5
                  go_wp2_with (first
                    | (go_at_call 27; refine HC.out.mono ?_; rintro e w3 ⟨rfl, hW⟩; have HW3 := Lib.hid hW; have hB3 := Nat.le_trans hBw2 hW.2.1.size; have HL3 : Hid (((bs ++ [Value.int .u8 34]) ++ dn ++ Lib.strCells ⟨#[92, 117, 48, 48]⟩).length ≤ 200000004) := Lib.hid (by rw [List.length_append, Lib.strCells_length]; have := HDN.out; exact Nat.add_le_add this (Nat.le_refl 4)); clear hW HC)
                    | (go_at_call 49; refine (wbyte_calls B b _ _ w3 (.inr HW3.out.1) (by have := HL3.out; omega) hB3).mono ?_; rintro e w4 ⟨rfl, hW⟩; have HW4 := Lib.hid (HW3.out.trans hW); have hB4 := Nat.le_trans hB3 hW.2.1.size; clear hW HW3)
                    | (go_at_call 49; refine (wbyte_calls B b _ _ w4 (.inr HW4.out.1) (by have := HL3.out; rw [List.length_append, List.length_singleton]; omega) hB4).mono ?_; rintro e w5 ⟨rfl, hW⟩; have HW5 := Lib.hid (HW4.out.trans hW); clear hW HW4))
                  have hW := HW5.out
                  rw [List.append_assoc, List.append_assoc] at hW
                  exact QI.round HP1.out HI2.out hIb HLT.out HDL.out HDD.out HB2.out hBw2 (by rw [HR.out]; rfl) hW
              · have q6 : decide ((r : Int) < 32) = false := decide_eq_false (by omega)
                have q7 : ((r : Int) == 127) = false := by rw [beq_eq_false_iff_ne]; omega
                have HE : Hid (escR (Utf8.decode s pos).1 = Lib.runeCells (r : Int)) := Lib.hid (by rw [hr2]; unfold escR; rw [if_neg (by omega), if_neg (by omega), if_neg (by omega), if_neg (by omega), if_neg (by omega)])
                have HC := Lib.hid (wrune_calls B b ((bs ++ [.int .u8 34]) ++ dn) (r : Int) (by omega) (by omega) w2 (.inr HA2.out) (by omega) hBw2)
                clear hdn
                go_wp2_with (go_at_call 50; refine HC.out.mono ?_; rintro e w3 ⟨⟨kk, rfl⟩, hW⟩; have HW := Lib.hid hW; clear hW)
                exact QI.round HP1.out HI2.out hIb HLT.out HDL.out HDD.out HB2.out hBw2 HE.out HW.out
    · have hnx := fun ty => Lib.run_next_end_at (P := Tryz.prog) wr w1.heap.size s pos ty hI hlt
      have hd2 := hdd
      rw [escFrom_end hlt, List.append_nil] at hd2
      subst hd2
      have HC := Lib.hid (wbyte_calls B b ((bs ++ [.int .u8 34]) ++ escFrom s 0) 34 wr (.inr hbA) (by simp; omega) (Nat.le_trans hBw hbw.size))
      have HBW := Lib.hid hbw
      clear hbA hbw hdd hI
      go_wp2_with (go_at_call 49; refine HC.out.mono ?_; rintro e w3 ⟨rfl, hW⟩; have HW := Lib.hid hW; clear hW)
      go_end0
      exact ⟨⟨_, rfl⟩, HW.out.1, HBW.out.trans HW.out.2.1⟩
end Go.Proofs.YtoiipdknamgcmaaGreatDoor
