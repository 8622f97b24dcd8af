/- The reader in memory; its small functions. The reader goes over blanks and remarks. The reader's words. -/
import Derived.Lib.IndexLaws
import Derived.Deep.QuietTactic
import Derived.BigQuiet
import Derived.Test.YtoiipdknamgcmaaGreatDoorCRdA
import Derived.Test.YtoiipdknamgcmaaGreatDoorCTxB
/- The reader in memory; its small functions. -/
set_option linter.unusedVariables false
set_option linter.unusedSimpArgs false
namespace Go.Proofs.YtoiipdknamgcmaaGreatDoor
open Go.RowKit Go.Shelf
attribute [local go_sem] lt_succ_of

def sfx (s : ByteArray) (p : Nat) : Bs := s.data.toList.drop p
theorem sfx_length (s : ByteArray) (p : Nat) : (sfx s p).length = s.size - p := by
  unfold sfx
  rw [List.length_drop]
  rfl
theorem sfx_end {s : ByteArray} {p : Nat} (h : s.size ≤ p) : sfx s p = [] := List.drop_eq_nil_of_le h
theorem sfx_cons {s : ByteArray} {p : Nat} (h : p < s.size) : sfx s p = s[p] :: sfx s (p + 1) := List.drop_eq_getElem_cons (show p < s.data.toList.length from h)
/-- The reader: its text, its place, how many forms it has seen. -/
def RdAt (w : World) (rb : Nat) (s : ByteArray) (p f : Nat) : Prop := w.heap[rb]? = some (.cells #[.string s, .int .i64 p, .int .i64 f] 52 (0, 0))
theorem RdAt.cells {w : World} {rb : Nat} {s : ByteArray} {p f : Nat} (h : RdAt w rb s p f) : w.cell? ⟨rb, 0, none⟩ = some (.string s) ∧ w.cell? ⟨rb, 1, none⟩ = some (.int .i64 p) ∧ w.cell? ⟨rb, 2, none⟩ = some (.int .i64 f) ∧ w.frozen? ⟨rb, 1, none⟩ = false ∧ w.frozen? ⟨rb, 2, none⟩ = false := by
  unfold RdAt at h
  simp [World.cell?, World.frozen?, h]
theorem RdAt.lt {w : World} {rb : Nat} {s : ByteArray} {p f : Nat} (h : RdAt w rb s p f) : rb < w.heap.size := (Array.getElem?_eq_some_iff.1 h).1
theorem RdAt.move {w : World} {rb : Nat} {s : ByteArray} {p f : Nat} (h : RdAt w rb s p f) (q : Nat) : RdAt (w.setCell ⟨rb, 1, none⟩ (.int .i64 q)) rb s q f := blockset h 1 _
theorem RdAt.keep {w w' : World} {rb : Nat} {s : ByteArray} {p f : Nat} (h : RdAt w rb s p f) (hb : Below w.heap.size w w') : RdAt w' rb s p f := blockB hb h
def atOf (w : World) (rb : Nat) : Nat := match w.cell? ⟨rb, 1, none⟩ with | some (.int _ n) => n.toNat | _ => 0
theorem RdAt.at {w : World} {rb : Nat} {s : ByteArray} {p f : Nat} (h : RdAt w rb s p f) : atOf w rb = p := by
  unfold atOf
  rw [h.cells.2.1]
  simp
theorem But.drewN {M : Nat → Prop} {w w' : World} (h : But M w w') (n : Nat) : But M w (w'.drewN n) := ⟨h.os, h.tape, h.output, h.size, h.block⟩
/-- The end of a round that moves the reader on. -/
theorem rd_close {rb : Nat} {s : ByteArray} {q f : Nat} {w wr : World} {n : Nat} {x : Int} {P : Nat → Prop} (hR : RdAt wr rb s q f) (hB : But (· = rb) w wr) (q' : Nat) (hx : x = (q' : Int)) (hq : q' ≤ s.size) (hlt : q < q') (hP : P q') :
    (∃ q1, q1 ≤ s.size ∧ Hid (RdAt ((wr.drewN n).setCell ⟨rb, 1, none⟩ (.int .i64 x)) rb s q1 f) ∧ P q1 ∧ But (fun b => b = rb) w ((wr.drewN n).setCell ⟨rb, 1, none⟩ (.int .i64 x))) ∧ s.size - atOf ((wr.drewN n).setCell ⟨rb, 1, none⟩ (.int .i64 x)) rb < s.size - atOf wr rb := by
  subst hx
  have h1 : RdAt ((wr.drewN n).setCell ⟨rb, 1, none⟩ (.int .i64 q')) rb s q' f := RdAt.move (w := wr.drewN n) hR q'
  refine ⟨⟨q', hq, Lib.hid h1, hP, (hB.drewN n).set (.inr rfl) _⟩, ?_⟩
  rw [h1.at, hR.at]
  omega
def Pan (e : Int) (p : Nat) : Ending := .panicked [{ v := .iface 73 (.agg #[.int .i64 e, .int .i64 p]), recovered := false }]
set_option maxRecDepth 100000 in
theorem fail_calls (r : Value) (e : Int) (p : Nat) (w : World) : Calls Tryz.prog 25 #[r, .int .i64 e, .int .i64 p] w fun e' w' => e' = .panicked [{ v := .iface 73 (.agg #[.int .i64 e, .int .i64 p]), recovered := false }] ∧ w = w' := by
  go_enter Tryz.func25, Tryz.ntmps25
  go_wp2_with fail
  exact ⟨rfl, rfl, rfl⟩
theorem u8_is (c k : UInt8) : (c == k) = decide ((c.toNat : Int) = (k.toNat : Int)) := by
  rw [Bool.eq_iff_iff, beq_iff_eq, decide_eq_true_iff]
  constructor
  · rintro rfl
    rfl
  · intro h
    apply UInt8.toNat_inj.1
    omega
def blankI (x : Int) : Bool := decide (x = 32) || decide (x = 9) || decide (x = 10) || decide (x = 13) || decide (x = 44)
theorem blankU_eq (c : UInt8) : blankU c = blankI c.toNat := by
  unfold blankU blankI
  rw [u8_is c 32, u8_is c 9, u8_is c 10, u8_is c 13, u8_is c 44]
  rfl
def endsI (x : Int) : Bool := decide (x = 59) || decide (x = 34) || decide (x = 40) || decide (x = 41) || decide (x = 91) || decide (x = 93) || decide (x = 123) || decide (x = 125)
theorem endsU_eq (c : UInt8) : endsU c = (blankI c.toNat || endsI c.toNat) := by
  unfold endsU
  rw [blankU_eq]
  unfold endsI
  rw [u8_is c 59, u8_is c 34, u8_is c 40, u8_is c 41, u8_is c 91, u8_is c 93, u8_is c 123, u8_is c 125]
  rfl
set_option maxRecDepth 100000 in
theorem blankI_calls (x : Int) (w : World) : Calls Tryz.prog 53 #[.int .u8 x] w fun e w' => e = .returned (.bool (blankI x)) ∧ w = w' := by
  by_cases c : x = 32 ∨ x = 9 ∨ x = 10 ∨ x = 13 ∨ x = 44
  · rcases c with c | c | c | c | c
    all_goals
      subst c
      go_enter Tryz.func53, Tryz.ntmps53
      go_wp2_with fail
      go_ret
      exact ⟨rfl, rfl⟩
  · have q1 : (x == 32) = false := by rw [beq_eq_false_iff_ne]; omega
    have q2 : (x == 9) = false := by rw [beq_eq_false_iff_ne]; omega
    have q3 : (x == 10) = false := by rw [beq_eq_false_iff_ne]; omega
    have q4 : (x == 13) = false := by rw [beq_eq_false_iff_ne]; omega
    have q5 : (x == 44) = false := by rw [beq_eq_false_iff_ne]; omega
    have hr : blankI x = false := by unfold blankI; simp; omega
    rw [hr]
    clear c hr
    go_enter Tryz.func53, Tryz.ntmps53
    go_wp2_with fail
    go_ret
    exact ⟨rfl, rfl⟩
end Go.Proofs.YtoiipdknamgcmaaGreatDoor

/- The reader goes over blanks and remarks. -/
set_option linter.unusedVariables false
set_option linter.unusedSimpArgs false
namespace Go.Proofs.YtoiipdknamgcmaaGreatDoor
open Go.RowKit Go.Shelf
attribute [local go_sem] lt_succ_of

theorem spaceL_nl (t : Bs) : spaceL false (10 :: t) = spaceL false t := by simp [spaceL, blankU]
theorem spaceL_remark : ∀ (l : Bs), spaceL true l = if Lib.indexByte l 10 < 0 then [] else spaceL false (l.drop (Lib.indexByte l 10).toNat)
  | [] => by simp [spaceL, Lib.indexByte]
  | c :: t => by
    have ih := spaceL_remark t
    have hge := Lib.indexByte_ge t 10
    rw [spaceL]
    by_cases hc : c = 10
    · subst hc
      rw [if_pos rfl, show Lib.indexByte (10 :: t) 10 = 0 by simp [Lib.indexByte], if_neg (by decide)]
      exact (spaceL_nl t).symm
    · rw [if_neg hc, ih]
      have h1 : Lib.indexByte (c :: t) 10 = if Lib.indexByte t 10 < 0 then -1 else Lib.indexByte t 10 + 1 := by
        rw [Lib.indexByte, if_neg (by simpa using hc)]
        by_cases h3 : Lib.indexByte t 10 = -1
        · rw [if_pos (by simpa using h3), if_pos (by omega)]
        · rw [if_neg (by simpa using h3), if_neg (by omega)]
      rw [h1]
      by_cases h2 : Lib.indexByte t 10 < 0
      · rw [if_pos h2, if_pos h2, if_pos (by decide)]
      · rw [if_neg h2, if_neg h2, if_neg (by omega), show (Lib.indexByte t 10 + 1).toNat = (Lib.indexByte t 10).toNat + 1 by omega, List.drop_succ_cons]
set_option maxRecDepth 100000 in
set_option maxHeartbeats 4000000 in
theorem spaced_calls (rb : Nat) (s : ByteArray) (p f : Nat) (w : World) (h : RdAt w rb s p f) (hp : p ≤ s.size) (hs : s.size ≤ 65536) :
    Calls Tryz.prog 38 #[.pointer (some ⟨rb, 0, none⟩)] w fun e w' => (∃ v, e = .returned v) ∧ ∃ q, q ≤ s.size ∧ RdAt w' rb s q f ∧ sfx s q = spaceL false (sfx s p) ∧ But (· = rb) w w' := by
  have hb := byteAt_eq s
  go_enter Tryz.func38, Tryz.ntmps38
  go_wp2_with fail
  go_loopw [] (fun wr => ∃ q : Nat, q ≤ s.size ∧ Hid (RdAt wr rb s q f) ∧ Hid (spaceL false (sfx s q) = spaceL false (sfx s p)) ∧ But (· = rb) w wr) (fun wr => s.size - atOf wr rb)
  case atStart => exact ⟨p, hp, Lib.hid h, Lib.hid rfl, But.of (Below.refl _ _)⟩
  case round =>
    obtain ⟨q, hq, hR, hE, hB⟩ := hrel
    obtain ⟨c0, c1, c2, f1, f2⟩ := hR.out.cells
    by_cases hlt : q < s.size
    · obtain ⟨b, hbb⟩ : ∃ b, byteAt s q = b := ⟨_, rfl⟩
      have hj : (q : Int) < (s.size : Int) := by omega
      have HC := Lib.hid fun W => blankI_calls (b : Int) W
      by_cases c1 : blankI b = true
      · have HK := Lib.hid c1
        go_wp2_with fail
        go_quiet (fail)
        go_wp2_with fail
        go_quiet (fail)
        go_wp2_with (go_at_call 53; refine (HC.out _).mono ?_; rintro e w2 ⟨rfl, rfl⟩; rw [HK.out])
        refine rd_close hR.out hB (q + 1) (by simp) (by omega) (by omega) (Lib.hid ?_)
        rw [← hE.out, sfx_cons hlt, spaceL, if_pos]
        rw [blankU_eq, hb q hlt, hbb]
        exact HK.out
      · have HK := Lib.hid (show blankI b = false by simpa using c1)
        by_cases c2 : b = 59
        · subst c2
          obtain ⟨I, hI⟩ : ∃ I, Lib.indexByte (s.extract q s.size).data.toList (10 : Int).toNat.toUInt8 = I := ⟨_, rfl⟩
          have HI := Lib.hid fun W => Tryz.strings_IndexByte (s.extract q s.size) 10 W
          rw [hI] at HI
          go_wp2_with fail
          go_quiet (fail)
          go_wp2_with fail
          go_quiet (fail)
          go_wp2_with (go_at_call 53; refine (HC.out _).mono ?_; rintro e w2 ⟨rfl, rfl⟩; rw [HK.out])
          have hsx : (s.extract q s.size).data.toList = sfx s q := by
            rw [ByteArray.data_extract, Array.toList_extract, List.extract_eq_take_drop]
            unfold sfx
            exact List.take_of_length_le (by rw [List.length_drop]; exact Nat.le_refl _)
          rw [hsx] at hI
          have hge := Lib.indexByte_ge (sfx s q) 10
          have hI2 : Lib.indexByte (sfx s q) 10 = I := hI
          have h0 : s[q] = 59 := UInt8.toNat_inj.1 ((hb q hlt).trans hbb)
          have hcons : sfx s q = 59 :: sfx s (q + 1) := by rw [sfx_cons hlt, h0]
          have hS : Hid (spaceL false (sfx s q) = spaceL true (sfx s (q + 1))) := Lib.hid (by rw [hcons, spaceL, if_neg (by decide), if_pos rfl])
          have hT : Lib.indexByte (sfx s q) 10 = if Lib.indexByte (sfx s (q + 1)) 10 = -1 then -1 else Lib.indexByte (sfx s (q + 1)) 10 + 1 := by
            rw [hcons, Lib.indexByte, if_neg (by decide)]
            by_cases h3 : Lib.indexByte (sfx s (q + 1)) 10 = -1
            · rw [if_pos (by simpa using h3), if_pos h3]
            · rw [if_neg (by simpa using h3), if_neg h3]
          have hge2 := Lib.indexByte_ge (sfx s (q + 1)) 10
          rw [hI2] at hT hge
          have hrm := spaceL_remark (sfx s (q + 1))
          obtain ⟨J, hJ⟩ : ∃ J, Lib.indexByte (sfx s (q + 1)) 10 = J := ⟨_, rfl⟩
          rw [hJ] at hT hge2 hrm
          by_cases hneg : I < 0
          · have hn : decide (I < 0) = true := decide_eq_true hneg
            have w1 : IntKind.i64.wrap ((s.size : Int) - (q : Int)) = (s.size : Int) - (q : Int) := IntWalk.i64_in _ (by omega)
            have hjn : J < 0 := by
              by_cases h3 : J = -1
              · omega
              · rw [if_neg h3] at hT; omega
            have HF : Hid (spaceL false (sfx s s.size) = spaceL false (sfx s p)) := Lib.hid (by rw [← hE.out, hS.out, hrm, if_pos hjn, sfx_end (Nat.le_refl _)]; rfl)
            clear hT hge2 hrm hJ hjn hI hI2 hge hcons h0
            go_wp2_with fail
            go_quiet ((go_at_call 54; exact (HI.out _).mono fun _ _ hh => ⟨hh.1, _, hh.2⟩))
            go_wp2_with fail
            go_quiet (fail)
            go_wp2_with fail
            refine rd_close hR.out hB s.size ?_ (Nat.le_refl _) hlt HF
            omega
          · have hn : decide (I < 0) = false := decide_eq_false hneg
            have h3 : J ≠ -1 := by rintro rfl; rw [if_pos rfl] at hT; omega
            rw [if_neg h3] at hT
            obtain ⟨o, rfl⟩ : ∃ o : Nat, J = o := ⟨J.toNat, by omega⟩
            have hs1 := (Lib.indexByte_some hJ).1
            obtain ⟨ho, _⟩ := List.getElem?_eq_some_iff.1 hs1
            rw [sfx_length] at ho
            have HF : Hid (spaceL false (sfx s (q + (o + 1))) = spaceL false (sfx s p)) := Lib.hid (by
              rw [← hE.out, hS.out, hrm, if_neg (by omega), Int.toNat_natCast]
              unfold sfx
              rw [List.drop_drop, show q + 1 + o = q + (o + 1) by omega])
            clear hge2 hrm hJ hs1 hcons h0 hI hI2 hge
            go_wp2_with fail
            go_quiet ((go_at_call 54; exact (HI.out _).mono fun _ _ hh => ⟨hh.1, _, hh.2⟩))
            go_wp2_with fail
            refine rd_close hR.out hB (q + (o + 1)) ?_ (by omega) (by omega) HF
            omega
        · have q1 : ((b : Int) == 59) = false := by rw [beq_eq_false_iff_ne]; omega
          go_wp2_with fail
          go_quiet (fail)
          go_wp2_with fail
          go_quiet (fail)
          go_wp2_with (go_at_call 53; refine (HC.out _).mono ?_; rintro e w2 ⟨rfl, rfl⟩; rw [HK.out])
          refine bodyPost_ret (results_none rfl _ _ _) rfl ?_
          refine ⟨⟨_, rfl⟩, q, hq, hR.out, ?_, hB.drewN _⟩
          have h2 := sfx_cons hlt
          rw [← hE.out, h2, spaceL, if_neg, if_neg]
          · intro h3
            rw [h3] at h2
            exact c2 (by rw [← hbb, ← hb q hlt, h3]; rfl)
          · rw [blankU_eq, hb q hlt, hbb, HK.out]
            decide
    · go_wp2_with fail
      go_quiet (fail)
      go_wp2_with fail
      go_end0
      refine ⟨⟨_, rfl⟩, q, hq, hR.out, ?_, hB.drewN _⟩
      rw [← hE.out, sfx_end (by omega)]
      rfl
end Go.Proofs.YtoiipdknamgcmaaGreatDoor

/- The reader's words. -/
set_option linter.unusedVariables false
set_option linter.unusedSimpArgs false
namespace Go.Proofs.YtoiipdknamgcmaaGreatDoor
open Go.RowKit Go.Shelf
attribute [local go_sem] lt_succ_of

theorem ends_index : ∀ c : UInt8, decide ((0 : Int) ≤ Lib.indexByte [59, 34, 40, 41, 91, 93, 123, 125] c) = (c == 59 || c == 34 || c == 40 || c == 41 || c == 91 || c == 93 || c == 123 || c == 125) := by
  intro c
  by_cases h1 : c = 59; · subst h1; decide
  by_cases h2 : c = 34; · subst h2; decide
  by_cases h3 : c = 40; · subst h3; decide
  by_cases h4 : c = 41; · subst h4; decide
  by_cases h5 : c = 91; · subst h5; decide
  by_cases h6 : c = 93; · subst h6; decide
  by_cases h7 : c = 123; · subst h7; decide
  by_cases h8 : c = 125; · subst h8; decide
  have n (k : UInt8) (h : ¬ c = k) : (k == c) = false := by rw [beq_eq_false_iff_ne]; exact fun e => h e.symm
  have m (k : UInt8) (h : ¬ c = k) : (c == k) = false := by rw [beq_eq_false_iff_ne]; exact h
  have hn : Lib.indexByte [59, 34, 40, 41, 91, 93, 123, 125] c = -1 := by
    simp only [Lib.indexByte, n _ h1, n _ h2, n _ h3, n _ h4, n _ h5, n _ h6, n _ h7, n _ h8, Bool.false_eq_true, if_false]
    rfl
  rw [hn, m _ h1, m _ h2, m _ h3, m _ h4, m _ h5, m _ h6, m _ h7, m _ h8]
  rfl
set_option maxRecDepth 100000 in
theorem ends_calls (c : UInt8) (w : World) : Calls Tryz.prog 89 #[.int .u8 c.toNat] w fun e w' => e = .returned (.bool (endsU c)) ∧ w = w' := by
  have HB := Lib.hid (blankI_calls (c.toNat : Int) w)
  have HI := Lib.hid (Tryz.strings_IndexByte ⟨#[59, 34, 40, 41, 91, 93, 123, 125]⟩ (c.toNat : Int) w)
  rw [← blankU_eq] at HB
  have he := ends_index c
  have hz : ((c.toNat : Int).toNat.toUInt8) = c := by simp
  rw [hz] at HI
  change Hid (Calls _ _ _ _ fun e w' => e = .returned (.int .i64 (Lib.indexByte [59, 34, 40, 41, 91, 93, 123, 125] c)) ∧ w' = w) at HI
  unfold endsU
  rw [← he]
  clear he hz
  obtain ⟨I, hI⟩ : ∃ I, Lib.indexByte [59, 34, 40, 41, 91, 93, 123, 125] c = I := ⟨_, rfl⟩
  rw [hI] at HI ⊢
  clear hI
  obtain ⟨n, hn⟩ : ∃ n : Int, (c.toNat : Int) = n := ⟨_, rfl⟩
  rw [hn] at HB HI ⊢
  clear hn
  cases hb : blankU c with
  | true =>
    rw [hb] at HB
    clear hb
    go_enter Tryz.func89, Tryz.ntmps89
    go_wp2_with (first | (go_at_call 53; refine HB.out.mono ?_; rintro e w2 ⟨rfl, rfl⟩))
    go_ret
    exact ⟨rfl, rfl⟩
  | false =>
    rw [hb] at HB
    clear hb
    go_enter Tryz.func89, Tryz.ntmps89
    go_wp2_with (first | (go_at_call 53; refine HB.out.mono ?_; rintro e w2 ⟨rfl, rfl⟩) | (go_at_call 54; refine HI.out.mono ?_; rintro e w2 ⟨rfl, rfl⟩))
    go_ret
    exact ⟨rfl, rfl⟩
theorem extract_bytes (s : ByteArray) (p q : Nat) (h : p ≤ q) (hq : q ≤ s.size) {w : Bs} (hw : w ++ sfx s q = sfx s p) : s.extract p q = ⟨w.toArray⟩ := by
  have hl := congrArg List.length hw
  rw [List.length_append, sfx_length, sfx_length] at hl
  apply ByteArray.ext
  apply Array.toList_inj.1
  rw [ByteArray.data_extract, Array.toList_extract, List.extract_eq_take_drop]
  show ((sfx s p).take (q - p)) = w
  rw [← hw, show q - p = w.length by omega, List.take_left]
theorem restL_ends {c : UInt8} {t : Bs} (h : endsU c = true) : restL (c :: t) = c :: t := by unfold restL; rw [List.dropWhile_cons, h]; rfl
theorem restL_more {c : UInt8} {t : Bs} (h : endsU c = false) : restL (c :: t) = restL t := by unfold restL; rw [List.dropWhile_cons, h]; rfl
set_option maxRecDepth 100000 in
set_option maxHeartbeats 4000000 in
theorem word_calls (rb : Nat) (s : ByteArray) (p f : Nat) (w : World) (h : RdAt w rb s p f) (hp : p ≤ s.size) (hs : s.size ≤ 65536) :
    Calls Tryz.prog 59 #[.pointer (some ⟨rb, 0, none⟩)] w fun e w' => e = .returned (.string ⟨(wordL (sfx s p)).toArray⟩) ∧ ∃ q, q ≤ s.size ∧ RdAt w' rb s q f ∧ sfx s q = restL (sfx s p) ∧ But (· = rb) w w' := by
  have hb := byteAt_eq s
  obtain ⟨a0, a1, a2, g1, g2⟩ := h.cells
  have HX : Hid (∀ q, p ≤ q → q ≤ s.size → sfx s q = restL (sfx s p) → s.extract p q = ⟨(wordL (sfx s p)).toArray⟩) := Lib.hid fun q h1 h2 h3 => extract_bytes s p q h1 h2 (by rw [h3]; exact word_rest _)
  obtain ⟨WD, hWD⟩ : ∃ WD, (⟨(wordL (sfx s p)).toArray⟩ : ByteArray) = WD := ⟨_, rfl⟩
  rw [hWD] at HX ⊢
  clear hWD
  go_enter Tryz.func59, Tryz.ntmps59
  go_wp2_with fail
  go_loopw [] (fun wr => ∃ q : Nat, q ≤ s.size ∧ Hid (RdAt wr rb s q f) ∧ (p ≤ q ∧ Hid (restL (sfx s q) = restL (sfx s p))) ∧ But (· = rb) w wr) (fun wr => s.size - atOf wr rb)
  case atStart => exact ⟨p, hp, Lib.hid h, ⟨Nat.le_refl _, Lib.hid rfl⟩, But.of (Below.refl _ _)⟩
  case round =>
    obtain ⟨q, hq, hR, ⟨hpq, hE⟩, hB⟩ := hrel
    obtain ⟨c0, c1, c2, f1, f2⟩ := hR.out.cells
    by_cases hlt : q < s.size
    · have hj : (q : Int) < (s.size : Int) := by omega
      have hjd : decide ((q : Int) < (s.size : Int)) = true := decide_eq_true hj
      obtain ⟨b, hbb⟩ : ∃ b, byteAt s q = b := ⟨_, rfl⟩
      have hbt : s[q].toNat = b := (hb q hlt).trans hbb
      have HC := Lib.hid fun W => ends_calls s[q] W
      rw [hbt] at HC
      by_cases c1 : endsU s[q] = true
      · rw [c1] at HC
        go_wp2_with fail
        go_quiet ((go_at_call 89; exact (HC.out _).mono fun _ _ hh => ⟨hh.1, _, hh.2.symm⟩))
        go_wp2_with fail
        go_quiet (fail)
        go_wp2_with fail
        go_ret
        rw [sfx_cons hlt, restL_ends c1, ← sfx_cons hlt] at hE
        exact ⟨by rw [HX.out q hpq hq hE.out]; rfl, q, hq, hR.out, hE.out, (hB.drewN _).drewN _⟩
      · have c3 : endsU s[q] = false := by simpa using c1
        rw [c3] at HC
        go_wp2_with fail
        go_quiet ((go_at_call 89; exact (HC.out _).mono fun _ _ hh => ⟨hh.1, _, hh.2.symm⟩))
        go_wp2_with fail
        refine rd_close hR.out hB (q + 1) (by simp) (by omega) (by omega) ⟨by omega, Lib.hid ?_⟩
        rw [← hE.out, sfx_cons hlt, restL_more c3]
    · go_wp2_with fail
      go_quiet (fail)
      go_wp2_with fail
      go_quiet (fail)
      go_wp2_with fail
      go_ret
      rw [sfx_end (by omega)] at hE
      have hE2 : sfx s q = restL (sfx s p) := by rw [sfx_end (by omega)]; exact hE.out
      exact ⟨by rw [HX.out q hpq hq hE2]; rfl, q, hq, hR.out, hE2, (hB.drewN _).drewN _⟩
def digU (c : UInt8) : Bool := decide (48 ≤ c.toNat) && decide (c.toNat ≤ 57)
theorem digitsU_eq (w : Bs) : digitsU w = (!w.isEmpty && w.all digU) := rfl
set_option maxRecDepth 100000 in
set_option maxHeartbeats 4000000 in
theorem digits_calls (s : ByteArray) (w : World) (hs : s.size ≤ 65536) :
    Calls Tryz.prog 90 #[.string s] w fun e w' => e = .returned (.bool (digitsU s.data.toList)) ∧ w = w' := by
  have hb := byteAt_eq s
  have hl : sfx s 0 = s.data.toList := rfl
  have hD : digitsU s.data.toList = (!decide (s.size = 0) && (sfx s 0).all digU) := by
    rw [digitsU_eq, hl]
    congr 2
    rw [Bool.eq_iff_iff, List.isEmpty_iff, decide_eq_true_iff]
    exact ⟨fun h => by have := congrArg List.length h; exact this, fun h => List.length_eq_zero_iff.1 h⟩
  have HT : Hid ((sfx s 0).all digU = true → s.size ≠ 0 → digitsU s.data.toList = true) := Lib.hid fun h1 h2 => by rw [hD, h1]; simpa using h2
  have HF : Hid ((sfx s 0).all digU = false → digitsU s.data.toList = false) := Lib.hid fun h1 => by rw [hD, h1, Bool.and_false]
  have HZ : Hid (s.size = 0 → digitsU s.data.toList = false) := Lib.hid fun h1 => by rw [hD, h1]; rfl
  obtain ⟨D, hDD⟩ : ∃ D, digitsU s.data.toList = D := ⟨_, rfl⟩
  rw [hDD] at HT HF HZ ⊢
  clear hD hl hDD
  go_enter Tryz.func90, Tryz.ntmps90
  go_wp2_with fail
  go_loopw [6] (fun vi wr => ∃ i : Nat, vi = .int .i64 i ∧ i ≤ s.size ∧ Hid ((sfx s i).all digU = (sfx s 0).all digU) ∧ w = wr) (fun v _ => s.size - (intOf v).toNat)
  case atStart => exact ⟨0, rfl, by omega, Lib.hid rfl, rfl⟩
  case round =>
    obtain ⟨i, rfl, hi, hE, rfl⟩ := hrel
    by_cases hlt : i < s.size
    · have hj : (i : Int) < (s.size : Int) := by omega
      have hjd : decide ((i : Int) < (s.size : Int)) = true := decide_eq_true hj
      obtain ⟨b, hbb⟩ : ∃ b, byteAt s i = b := ⟨_, rfl⟩
      have hbt : s[i].toNat = b := (hb i hlt).trans hbb
      have hA : (sfx s i).all digU = (digU s[i] && (sfx s (i + 1)).all digU) := by rw [sfx_cons hlt, List.all_cons]
      have hU : digU s[i] = (decide (48 ≤ b) && decide (b ≤ 57)) := by unfold digU; rw [hbt]
      by_cases c1 : b < 48
      · have d1 : decide ((b : Int) < 48) = true := decide_eq_true (by omega)
        have HR := Lib.hid (HF.out (by rw [← hE.out, hA, hU, decide_eq_false (show ¬ 48 ≤ b by omega)]; rfl))
        clear hA hU c1
        go_wp2_with fail
        go_ret
        exact ⟨by rw [HR.out]; rfl, rfl⟩
      have d1 : decide ((b : Int) < 48) = false := decide_eq_false (by omega)
      by_cases c2 : 57 < b
      · have d2 : decide ((57 : Int) < (b : Int)) = true := decide_eq_true (by omega)
        have HR := Lib.hid (HF.out (by rw [← hE.out, hA, hU, decide_eq_false (show ¬ b ≤ 57 by omega)]; simp))
        clear hA hU c1 c2
        go_wp2_with fail
        go_ret
        exact ⟨by rw [HR.out]; rfl, rfl⟩
      have d2 : decide ((57 : Int) < (b : Int)) = false := decide_eq_false (by omega)
      have HR : Hid ((sfx s (i + 1)).all digU = (sfx s 0).all digU) := Lib.hid (by rw [← hE.out, hA, hU, decide_eq_true (show 48 ≤ b by omega), decide_eq_true (show b ≤ 57 by omega)]; rfl)
      clear hA hU c1 c2
      go_wp2_with fail
      exact ⟨⟨i + 1, by simp, by omega, HR, trivial⟩, by simp [intOf]; omega⟩
    · obtain rfl : i = s.size := by omega
      have hjd : decide ((s.size : Int) < (s.size : Int)) = false := decide_eq_false (by omega)
      have hj : ¬ ((s.size : Int) < (s.size : Int)) := by omega
      have hall : (sfx s 0).all digU = true := by rw [← hE.out, sfx_end (Nat.le_refl _)]; rfl
      by_cases hz : s.size = 0
      · have HR := Lib.hid (HZ.out hz)
        have he : s = ⟨#[]⟩ := ByteArray.ext (Array.eq_empty_of_size_eq_zero hz)
        subst he
        go_wp2_with fail
        go_ret
        exact ⟨by rw [HR.out]; rfl, rfl⟩
      · have HR := Lib.hid (HT.out hall hz)
        have hne : (s.toList == []) = false := by
          rw [beq_eq_false_iff_ne]
          intro e
          exact hz ((size_nil s).2 e)
        clear hall hz
        go_wp2_with fail
        go_ret
        exact ⟨by rw [HR.out]; rfl, rfl⟩
end Go.Proofs.YtoiipdknamgcmaaGreatDoor
