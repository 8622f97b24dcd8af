/- Items and values, as the program writes them. -/
import Derived.Test.YtoiipdknamgcmaaGreatDoorCTxF

set_option linter.unusedVariables false
set_option linter.unusedSimpArgs false
namespace Go.Proofs.YtoiipdknamgcmaaGreatDoor
open Go.RowKit Go.Shelf
attribute [local go_sem] lt_succ_of

/-- A builder, fresh or used, with these bytes. -/
def IsB (B b : Nat) (bs : List Value) (w : World) : Prop := Lib.IsBuilderF 43 5 B b bs w
theorem Bld.below {B b : Nat} {bs : List Value} {p : Value} {w w' : World} (h : Lib.BuilderAtF 43 5 B b p bs w) (hb : Below w.heap.size w w') : Lib.BuilderAtF 43 5 B b p bs w' := by
  have hlt := h.lt
  obtain ⟨hB, v, hv, hown, hne⟩ := h
  exact ⟨hB, v, (hb.block b hlt).trans hv, hown.kept (row := none) ⟨hb.os, hb.tape, hb.output, hb.size, fun k hk _ => hb.block k hk⟩ (Classical.em _), hne⟩
theorem IsB.below {B b : Nat} {bs : List Value} {w w' : World} (h : IsB B b bs w) (hb : Below w.heap.size w w') : IsB B b bs w' := h.elim (fun x => .inl (Bld.below x hb)) (fun x => .inr (Bld.below x hb))
/-- The contract of printed at values below a size. -/
def PrAt (n : Nat) : Prop := ∀ x, V.size x < n → okAll x = true → ∀ (vx : Value) (B b : Nat) (bs : List Value) (w : World), IsV w (fun k => k < B) x vx → IsB B b bs w → B ≤ w.heap.size → bs.length + 2000 * V.size x ≤ 100000000 → Pow10 w → 0 < B → Calls Tryz.prog 15 #[.pointer (some ⟨b, 0, none⟩), vx] w fun e w' => (∃ v, e = .returned v) ∧ Bld B b (bs ++ prV x) w' ∧ Below B w w' ∧ Pow10 w' ∧ (prV x).length + 1 ≤ 2000 * V.size x
theorem prL_take (l : List V) (i : Nat) (h : i < l.length) : prL (l.take (i + 1)) true = prL (l.take i) true ++ (if 0 < i then [.int .u8 32] else []) ++ prV (itemAt l i) := by
  have key : ∀ (m : List V) (x : V) (f : Bool), prL (m ++ [x]) f = prL m f ++ (if m = [] ∧ f = true then [] else [Value.int .u8 32]) ++ prV x := by
    intro m
    induction m with
    | nil => intro x f; cases f <;> simp [prL]
    | cons y m ih => intro x f; simp only [List.cons_append, prL, ih]; simp
  rw [itemAt_take h, key]
  by_cases h0 : 0 < i
  · rw [if_pos h0, if_neg]
    rintro ⟨h1, _⟩
    have := congrArg List.length h1
    rw [List.length_take, List.length_nil] at this
    omega
  · obtain rfl : i = 0 := by omega
    simp
theorem sizes_take2 (l : List V) (i : Nat) (h : i < l.length) : V.sizes (l.take (i + 1)) = V.sizes (l.take i) + V.size (itemAt l i) := by
  have key : ∀ (m : List V) (x : V), V.sizes (m ++ [x]) = V.sizes m + V.size x := by
    intro m
    induction m with
    | nil => intro x; simp [V.sizes]
    | cons y m ih => intro x; simp only [List.cons_append, V.sizes, ih]; omega
  rw [itemAt_take h, key]
theorem sizes_part (l : List V) (i : Nat) : V.sizes (l.take i) ≤ V.sizes l := by
  have key : ∀ (a b : List V), V.sizes (a ++ b) = V.sizes a + V.sizes b := by
    intro a
    induction a with
    | nil => intro b; simp [V.sizes]
    | cons y m ih => intro b; simp only [List.cons_append, V.sizes, ih]; omega
  have := key (l.take i) (l.drop i)
  rw [List.take_append_drop] at this
  omega
theorem okAlls_mem {l : List V} (h : okAlls l = true) : ∀ x ∈ l, okAll x = true := by
  induction l with
  | nil => simp
  | cons y m ih =>
    rw [okAlls, Bool.and_eq_true] at h
    intro x hx
    rcases List.mem_cons.1 hx with rfl | hx
    · exact h.1
    · exact ih h.2 x hx
set_option maxRecDepth 100000 in
set_option maxHeartbeats 8000000 in
theorem row_step (n : Nat) (ih : PrAt n) (l : List V) (hn : ∀ x ∈ l, V.size x < n) (hok : okAlls l = true) (op : ByteArray) (en : Int) (vl : Value) (B b : Nat) (bs : List Value) (w : World) (hl : IsS w (fun k => k < B) l vl) (hb : IsB B b bs w) (hBw : B ≤ w.heap.size) (hop : op.size ≤ 2) (hlen : bs.length + 2000 * (1 + V.sizes l) ≤ 100000000) (hT : Pow10 w) (hB0 : 0 < B) :
    Calls Tryz.prog 31 #[.pointer (some ⟨b, 0, none⟩), .string op, vl, .int .u8 en] w fun e w' => (∃ v, e = .returned v) ∧ Bld B b (bs ++ (Lib.strCells op ++ prL l true ++ [.int .u8 en])) w' ∧ Below B w w' ∧ (prL l true).length ≤ 2000 * V.sizes l := by
  have hl2 := length_sizes l
  obtain ⟨A, c, rfl, hc, hl64, hA⟩ := hl
  have HA := Lib.hid hA
  have IH := Lib.hid ih
  have HN := Lib.hid hn
  have HOK := Lib.hid (okAlls_mem hok)
  have HB0 := Lib.hid hB0
  have HT := Lib.hid hT
  have HOP := Lib.hid (show (Lib.strCells op).length ≤ 2 by rw [Lib.strCells_length]; exact hop)
  have HW0 := Lib.hid (wstring_calls B b bs op w hb (by omega) hBw)
  have HLEN := Lib.hid hlen
  clear hA ih hn hok hT hb hlen hB0
  go_enter Tryz.func31, Tryz.ntmps31
  go_wp2_with (go_at_call 27; refine HW0.out.mono ?_; rintro e w1 ⟨rfl, hW1⟩; have HW1 := Lib.hid hW1; clear hW1)
  have hb1 := HW1.out.2.1
  go_loopw [15] (fun vi wr => ∃ i : Nat, vi = .int .i64 i ∧ i ≤ l.length ∧ Hid (Bld B b (bs ++ (Lib.strCells op ++ prL (l.take i) true)) wr) ∧ Hid ((prL (l.take i) true).length ≤ 2000 * V.sizes (l.take i)) ∧ Below B w wr) (fun v _ => l.length - (intOf v).toNat)
  case atStart => exact ⟨0, rfl, by omega, Lib.hid (by simpa [prL, Bld] using HW1.out.1), Lib.hid (by simp [prL]), hb1⟩
  case round =>
    obtain ⟨i, rfl, hi, hB, hL, hf⟩ := hrel
    by_cases hlt : i < l.length
    · have hj2 : (i : Int) < (l.length : Int) := by omega
      obtain ⟨ad, A1, cap1, rfl, hla', hbd, f0, f1, f2, f3, hcap1, hLA⟩ := (HA.out.keep (w' := wr) (S' := fun k => k < B) (fun k h1 h2 => ⟨h2, hf.block k h2⟩)).at i hlt
      have hX := IsV.mk hbd hcap1 hLA
      obtain ⟨w3, hw3, hB3, hs3, hk3⟩ : ∃ w3, wr.alloc (.cells #[.int .i64 (itemAt l i).kind, .int .i64 (itemAt l i).num, .string (itemAt l i).text, .slice A1 (itemAt l i).items.length cap1] 24) = w3 ∧ Below wr.heap.size wr w3 ∧ wr.heap.size + 1 = w3.heap.size ∧ w3.heap[wr.heap.size]? = some (.cells #[.int .i64 (itemAt l i).kind, .int .i64 (itemAt l i).num, .string (itemAt l i).text, .slice A1 (itemAt l i).items.length cap1] 24 (0, 0)) := ⟨_, rfl, (Below.refl _ _).alloc (Nat.le_refl _) _, by simp, heap_alloc_new _ _⟩
      have hbl : b < wr.heap.size := (show Lib.BuilderAtF _ _ B b _ _ wr from hB.out).lt
      have hA3 : Bld B b (bs ++ (Lib.strCells op ++ prL (l.take i) true)) w3 := by rw [← hw3]; exact Lib.BuilderAtF.alloc hB.out _
      have HX3 := Lib.hid (hX.below hB3)
      have hsz := hf.size
      have hst := sizes_take2 l i hlt
      have hsp := sizes_part l (i + 1)
      have hbw3 : Below B w w3 := hf.trans (hB3.mono (by omega))
      have hln : ((bs ++ (Lib.strCells op ++ prL (l.take i) true)).length + 1 + 2000 * V.size (itemAt l i)) ≤ 100000000 := by
        have h1 := HLEN.out
        have h2 := hL.out
        have h3 := HOP.out
        simp only [List.length_append]
        omega
      obtain ⟨e0, e1, e2, e3⟩ := block4 hk3
      have hm : itemAt l i ∈ l := itemAt_mem hlt
      have HP : Hid (∀ (bs' : List Value) (w4 : World), Below B w3 w4 → Bld B b bs' w4 → bs'.length + 2000 * V.size (itemAt l i) ≤ 100000000 → _) := Lib.hid fun bs' w4 hb4 hB4 hl4 => IH.out (itemAt l i) (HN.out _ hm) (HOK.out _ hm) _ B b bs' w4 (HX3.out.keep fun k h1 h2 => ⟨h2, hb4.block k h2⟩) (.inr hB4) (Nat.le_trans (by omega) hb4.size) hl4 (tab_later tab_named (hbw3.trans hb4) HB0.out HT.out) HB0.out
      by_cases h0 : i = 0
      · have d0 : decide ((0 : Int) < (i : Int)) = false := decide_eq_false (by omega)
        have d0n : ¬ ((0 : Int) < (i : Int)) := by omega
        have d0m : ¬ (0 < i) := by omega
        have hq := prL_take l i hlt
        rw [if_neg (by omega)] at hq
        have HQ := Lib.hid hq
        have HP4 := Lib.hid (HP.out _ w3 (Below.refl _ _) hA3 (by omega))
        have HSP := Lib.hid hsp
        have HST := Lib.hid hst
        clear hX hbd hLA hq hsp hst hm h0
        go_wp2_with (go_at_call 15; refine HP4.out.mono ?_; rintro e w5 ⟨⟨v5, rfl⟩, hB5, hb5, hT5, hl5⟩; have HB5 := Lib.hid hB5; have hb6 := hbw3.trans hb5; clear hB5 HP4)
        refine ⟨⟨i + 1, by simp, by omega, Lib.hid ?_, Lib.hid ?_, hb6⟩, by simp [intOf]; omega⟩
        · have h5 := HB5.out
          rw [HQ.out]
          simpa [List.append_assoc] using h5
        · have h2 := hL.out
          have h3 := HST.out
          rw [HQ.out]
          simp only [List.length_append, List.length_singleton, List.length_nil]
          omega
      · have d0 : decide ((0 : Int) < (i : Int)) = true := decide_eq_true (by omega)
        have hq := prL_take l i hlt
        rw [if_pos (by omega)] at hq
        have HQ := Lib.hid hq
        have HC := Lib.hid (wbyte_calls B b _ 32 w3 (.inr hA3) (by omega) (by omega))
        have HSP := Lib.hid hsp
        have HST := Lib.hid hst
        clear hX hbd hLA hq hsp hst hm
        go_wp2_with (first
          | (go_at_call 49; refine HC.out.mono ?_; rintro e w4 ⟨rfl, hW⟩; have k4 := hW.2.2 _ _ hk3 (by intro e; injection e with e; omega) (fun _ _ e => by injection e with _ e; revert e; decide); obtain ⟨g0, g1, g2, g3⟩ := block4 k4; have HP4 := Lib.hid (HP.out _ w4 hW.2.1 hW.1 (by simp only [List.length_append, List.length_singleton] at hln ⊢; omega)); have hb4 := hbw3.trans hW.2.1; clear hW k4 HC)
          | (go_at_call 15; refine HP4.out.mono ?_; rintro e w5 ⟨⟨v5, rfl⟩, hB5, hb5, hT5, hl5⟩; have HB5 := Lib.hid hB5; have hb6 := hb4.trans hb5; clear hB5 HP4))
        refine ⟨⟨i + 1, by simp, by omega, Lib.hid ?_, Lib.hid ?_, hb6⟩, by simp [intOf]; omega⟩
        · have h5 := HB5.out
          rw [HQ.out]
          simpa [List.append_assoc] using h5
        · have h2 := hL.out
          have h3 := HST.out
          rw [HQ.out]
          simp only [List.length_append, List.length_singleton, List.length_nil]
          omega
    · have hj2 : ¬ (i : Int) < (l.length : Int) := by omega
      have hj3 : decide ((i : Int) < (l.length : Int)) = false := decide_eq_false hj2
      rw [List.take_of_length_le (by omega)] at hB hL
      have HC := Lib.hid (wbyte_calls B b (bs ++ (Lib.strCells op ++ prL l true)) en wr (.inr hB.out) (by have h1 := HLEN.out; have h2 := hL.out; have h3 := HOP.out; simp only [List.length_append]; omega) (Nat.le_trans hBw hf.size))
      have HL := Lib.hid hL.out
      clear hB hL
      go_wp2_with (go_at_call 49; refine HC.out.mono ?_; rintro e w3 ⟨rfl, hW⟩; have HW := Lib.hid hW; clear hW HC)
      go_end0
      refine ⟨⟨_, rfl⟩, ?_, hf.trans HW.out.2.1, HL.out⟩
      have h5 := HW.out.1
      rw [List.append_assoc] at h5
      exact h5
end Go.Proofs.YtoiipdknamgcmaaGreatDoor
