/- Right values: the world grows, and no draw is taken back (written by mkBd.py). -/
import Derived.StillTailTactics
import Derived.Test.YtmnblgaefdahhaaGreatDoorCQmE
import Derived.Test.YtmnblgaefdahhaaGreatDoorCValF

set_option linter.unusedVariables false
set_option linter.unusedSimpArgs false
namespace Go.Proofs.YtmnblgaefdahhaaGreatDoor
open Go.RowKit Go.Shelf
attribute [local go_sem] lt_succ_of

theorem Bd.size {w w' : World} (h : Bd w w') : w.heap.size ≤ w'.heap.size := h.below.size
theorem Bd.block {w w' : World} (h : Bd w w') : ∀ b, b < w.heap.size → w'.heap[b]? = w.heap[b]? := h.below.block
theorem cellD {w w' : World} (h : Bd w w') {a : Addr} {v : Value} (h0 : w.cell? a = some v) : w'.cell? a = some v := cellB h.below h0
theorem tabs_d {a b : Nat} {w w' : World} (h : Lib.Utf8Tabs a b w) (hb : Bd w w') : Lib.Utf8Tabs a b w' := tabs_below h hb.below
theorem Bd.iterAt {w wr : World} (h : Bd w wr) (s : ByteArray) (p : Nat) : Bd w (wr.iterAt w.heap.size s p) := ⟨Lib.below_iterAt h.below (Nat.le_refl _) s p, h.drawn⟩
theorem box1d (w : World) (a b c d : Value) (t : TypeId) : ∃ w1, w.alloc (.cells #[a, b, c, d] t) = w1 ∧ Bd w w1 ∧ w.heap.size < w1.heap.size ∧ w1.heap[w.heap.size]? = some (.cells #[a, b, c, d] t (0, 0)) := by
  obtain ⟨w1, h1, h2, h3, h4⟩ := box1 w a b c d t
  exact ⟨w1, h1, by rw [← h1]; exact Bd.box _ _, h3, h4⟩
theorem compared_calls (x y : V) (vx vy : Value) (w : World) (S S' : Nat → Prop) (hx : IsV w S x vx) (hy : IsV w S' y vy) :
    Calls Tryz.prog 59 #[vx, vy] w fun e w' => e = .returned (.int .i64 (cmpV x y)) ∧ Bd w w' :=
  (compareq_calls x y vx vy w S S' hx hy).mono fun e w' h => ⟨h.1, h.2.bd⟩
theorem repl_bytes {s : ByteArray} (h : (Lib.decodeGo s).1 = 65533) (h2 : (Lib.decodeGo s).2 ≠ 1) (h0 : s.size ≠ 0) : 3 ≤ s.size ∧ (s.get! 0).toNat = 239 ∧ (s.get! 1).toNat = 191 ∧ (s.get! 2).toNat = 189 ∧ (Lib.decodeGo s).2 = 3 := by
  unfold Lib.decodeGo at h h2 ⊢
  rw [if_neg h0, Lib.decode_at] at h h2 ⊢
  rw [Nat.sub_zero, Nat.zero_add, Nat.zero_add, Nat.zero_add] at h h2 ⊢
  have l0 := (s.get! 0).toNat_lt
  have l1 := (s.get! 1).toNat_lt
  have l2 := (s.get! 2).toNat_lt
  unfold Lib.decodeN at h h2 ⊢
  split at h
  · simp only at h; omega
  · rename_i c0
    rw [if_neg c0] at h2
    split at h
    · rename_i c1
      rw [if_pos c1] at h2
      split at h
      · simp only at h; omega
      · rename_i c3
        rw [if_neg c3] at h2
        exact absurd rfl h2
    · rename_i c1
      rw [if_neg c1] at h2
      split at h
      · rename_i c2
        rw [if_pos c2] at h2
        split at h
        · rename_i c3
          simp only at h
          rw [if_neg c0, if_neg c1, if_pos c2, if_pos c3]
          refine ⟨by omega, by omega, by omega, by omega, rfl⟩
        · rename_i c3
          rw [if_neg c3] at h2
          exact absurd rfl h2
      · rename_i c2
        rw [if_neg c2] at h2
        split at h
        · rename_i c4
          rw [if_pos c4] at h2
          split at h
          · simp only at h; omega
          · rename_i c3
            rw [if_neg c3] at h2
            exact absurd rfl h2
        · rename_i c4
          rw [if_neg c4] at h2
          exact absurd rfl h2
theorem get_lt (s : ByteArray) (k : Nat) (h : k < s.size) : s.get! k = s[k]'h := by
  cases s with
  | mk d => exact getElem!_pos d k h
set_option maxRecDepth 1000000 in
theorem slow_repl (s : ByteArray) (w : World) (hT : Lib.Utf8Tabs 1 2 w) (h3 : 3 ≤ s.size) (hb : s.size ≤ 256) (b0 : (s.get! 0).toNat = 239) (b1 : (s.get! 1).toNat = 191) (b2 : (s.get! 2).toNat = 189) :
    Calls Tryz.prog 106 #[.string s] w fun e w' => e = .returned (.tuple #[.int .i32 65533, .int .i64 3]) ∧ Bd w w' := by
  have hc0 := hT.1 239 (by omega)
  have ha0 := (hT.2 0 (by omega)).1
  have ha1 := (hT.2 0 (by omega)).2
  rw [show Lib.firstT 239 = 3 by decide] at hc0
  simp only [Lib.accLo, Lib.accHi, Nat.reduceMul, Nat.reduceAdd, Nat.reduceEqDiff, if_true, if_false] at ha0 ha1
  have hs0 : (s[0]'(by omega)).toNat = 239 := by rw [← b0, get_lt s 0 (by omega)]
  have hs1 : (s[1]'(by omega)).toNat = 191 := by rw [← b1, get_lt s 1 (by omega)]
  have hs2 : (s[2]'(by omega)).toNat = 189 := by rw [← b2, get_lt s 2 (by omega)]
  have hz0 : (0 : Int) < (s.size : Int) := by omega
  have hz1 : (1 : Int) < (s.size : Int) := by omega
  have hz2 : (2 : Int) < (s.size : Int) := by omega
  have hz3 : ¬ ((s.size : Int) < 3) := by omega
  have hz4 : ¬ ((s.size : Int) < 1) := by omega
  clear hT b0 b1 b2
  go_enter Tryz.func106, Tryz.ntmps106
  go_wp2
  go_ret2
  exact ⟨by first | rfl | decide, Bd.box _ _⟩
set_option maxRecDepth 1000000 in
theorem decode_repl (s : ByteArray) (w : World) (hT : Lib.Utf8Tabs 1 2 w) (h3 : 3 ≤ s.size) (hb : s.size ≤ 256) (b0 : (s.get! 0).toNat = 239) (b1 : (s.get! 1).toNat = 191) (b2 : (s.get! 2).toNat = 189) :
    Calls Tryz.prog 96 #[.string s] w fun e w' => e = .returned (.tuple #[.int .i32 65533, .int .i64 3]) ∧ Bd w w' := by
  have HC := Lib.hid (slow_repl s w hT h3 hb b0 b1 b2)
  have hs0 : (s[0]'(by omega)).toNat = 239 := by rw [← b0, get_lt s 0 (by omega)]
  have hz0 : (0 : Int) < (s.size : Int) := by omega
  have hne : s.toList.isEmpty = false := by
    rw [Lib.toList_data]
    cases h : s.data.toList with
    | nil => exact absurd (show s.size = 0 from by show s.data.size = 0; rw [← Array.length_toList, h]; rfl) (by omega)
    | cons _ _ => rfl
  clear hT b0 b1 b2
  go_enter Tryz.func96, Tryz.ntmps96
  go_wp2_with (go_at_call 106; refine HC.out.mono ?_; rintro e w' ⟨rfl, hb⟩)
  go_ret2
  exact ⟨rfl, hb⟩
theorem utfd_calls (s : ByteArray) (w : World) (hs : s.size ≤ 256) (hu0 : utfFrom s 0 = true) (hT : Lib.Utf8Tabs 1 2 w) :
    Calls Tryz.prog 88 #[.string s] w fun e w' => e = .returned (.bool true) ∧ Bd w w' := by
  have HT := Lib.hid hT
  have HU0 := Lib.hid hu0
  clear hu0
  clear hT
  obtain ⟨w1, hw1, hB1, hI1⟩ : ∃ w1, w.iter s 0 = w1 ∧ Bd w w1 ∧ w1.heap[w.heap.size]? = some (.stringIter s 0) := ⟨_, rfl, Bd.box _ _, World.iter_heap _ _ _⟩
  go_enter Tryz.func88, Tryz.ntmps88
  go_wp2_with fail
  have hw1 := Lib.hid hw1
  go_loopw [] (fun wr => ∃ pos : Nat, wr.heap[w.heap.size]? = some (.stringIter s pos) ∧ Hid (utfFrom s pos = utfFrom s 0) ∧ Bd w wr) (fun wr => s.size - wr.iterPos w.heap.size)
  case atStart => exact ⟨0, hI1, Lib.hid rfl, hB1⟩
  case round =>
    obtain ⟨pos, hI, hu, hb⟩ := hrel
    clear hw1 hI1 hB1
    by_cases hlt : pos < s.size
    · have hnx := fun ty => Lib.run_next_any_at (P := Tryz.prog) wr w.heap.size s pos ty hI hlt
      have hwd := Lib.width_pos s pos
      have hI2 := Lib.iterAt_heap wr w.heap.size s pos (pos + (Utf8.decode s pos).2) hI
      have hb2 := hb.iterAt s (pos + (Utf8.decode s pos).2)
      have hp1 : wr.iterPos w.heap.size = pos := by simp [World.iterPos, hI]
      obtain ⟨w2, hw2⟩ : ∃ w2, wr.iterAt w.heap.size s (pos + (Utf8.decode s pos).2) = w2 := ⟨_, rfl⟩
      rw [hw2] at hI2 hb2
      have hp2 : w2.iterPos w.heap.size = pos + (Utf8.decode s pos).2 := by simp [World.iterPos, hI2]
      have HP1 := Lib.hid hp1
      have HP2 := Lib.hid hp2
      have HI2 := Lib.hid hI2
      clear hp1 hp2 hI2
      by_cases h1 : (Utf8.decode s pos).1 = 65533
      · have h1' : (((Utf8.decode s pos).1 : Int) == 65533) = true := by rw [h1]; rfl
        by_cases h2 : (Utf8.decode s pos).2 = 1
        · have h2' : (((Utf8.decode s pos).2 : Int) == 1) = true := by rw [h2]; rfl
          have hbad : Utf8.decode s pos = (65533, 1) := Prod.ext h1 h2
          have HU : Hid (utfFrom s 0 = false) := Lib.hid (by rw [← hu.out, utfFrom_bad hlt hbad])
          rw [HU0.out] at HU
          exact absurd HU.out (by decide)
        · have h2' : (((Utf8.decode s pos).2 : Int) == 1) = false := by simp; omega
          have hgood : Hid (Utf8.decode s pos ≠ (65533, 1)) := Lib.hid fun e => h2 (by rw [e])
          have hsz : (s.extract pos s.size).size = s.size - pos := Lib.tail_size s pos
          have hdt := decode_tail s pos hlt
          obtain ⟨r1, r2, r3, r4, r5⟩ := repl_bytes (s := s.extract pos s.size) (by rw [hdt]; exact h1) (by rw [hdt]; exact h2) (by omega)
          have HD := Lib.hid (decode_repl (s.extract pos s.size) w2 (tabs_d HT.out hb2) r1 (by omega) r2 r3 r4)
          clear HU0
          have hn3 : (((3 : Int)) == 1) = false := by decide
          clear h1 h2 r1 r2 r3 r4 r5 hsz hdt
          go_wp2_with (go_at_call 96; refine HD.out.mono ?_; rintro e w3 ⟨rfl, hb3⟩)
          go_roundw
          case rel => exact ⟨pos + (Utf8.decode s pos).2, (hb3.block _ (Array.getElem?_eq_some_iff.1 HI2.out).1).trans HI2.out, Lib.hid (by rw [← hu.out, utfFrom_good hlt hgood.out]), Bd.trans hb2 hb3⟩
          case measure =>
            have : w3.iterPos w.heap.size = pos + (Utf8.decode s pos).2 := by simp [World.iterPos, (hb3.block _ (Array.getElem?_eq_some_iff.1 HI2.out).1).trans HI2.out]
            rw [this, HP1.out]; omega
      · have h1' : (((Utf8.decode s pos).1 : Int) == 65533) = false := by simp; omega
        have hgood : Hid (Utf8.decode s pos ≠ (65533, 1)) := Lib.hid fun e => h1 (by rw [e])
        clear h1
        go_wp2_with fail
        go_roundw
        case rel => exact ⟨pos + (Utf8.decode s pos).2, HI2.out, Lib.hid (by rw [← hu.out, utfFrom_good hlt hgood.out]), hb2⟩
        case measure => rw [HP2.out, HP1.out]; omega
    · have hnx := fun ty => Lib.run_next_end_at (P := Tryz.prog) wr w.heap.size s pos ty hI hlt
      have HU : Hid (utfFrom s 0 = true) := Lib.hid (by rw [← hu.out, utfFrom_end hlt])
      go_wp2_with fail
      go_ret
      exact ⟨rfl, hb⟩
set_option maxRecDepth 100000 in
theorem plaind_calls (x : V) (vx : Value) (w : World) (S : Nat → Prop) (hx : IsV w S x vx) (hk : plainB x = true) (hT : Lib.Utf8Tabs 1 2 w) :
    Calls Tryz.prog 72 #[vx] w fun e w' => e = .returned (.bool true) ∧ Bd w w' := by
  obtain ⟨hb, A, ca, rfl, hca, hA⟩ := hx.eq
  clear hx
  have HT := Lib.hid hT
  clear hT
  cases x with
  | mk k n t l =>
  have hl1 := hb.l1
  have ht1 := hb.t1
  show Calls _ _ _ _ fun e w' => e = .returned (.bool true) ∧ _
  simp only [V.kind, V.num, V.text, V.items] at *
  clear hb hA
  have hsn := size_nil t
  obtain ⟨PX, hPX⟩ : ∃ b, plainK k n t = b := ⟨_, rfl⟩
  have hk2 : PX = true := by rw [← hPX]; exact hk
  have HK2 := Lib.hid hk2
  clear hk hk2
  have cs : k = 1 ∨ k = 2 ∨ k = 3 ∨ (k ≠ 1 ∧ k ≠ 2 ∧ k ≠ 3) := by omega
  rcases cs with rfl | rfl | rfl | ⟨k1, k2, k3⟩
  · obtain ⟨w1, hw1, hB1, hsz, hb0⟩ := box1d w (.int .i64 1) (.int .i64 n) (.string t) (.slice A l.length ca) 39
    obtain ⟨a0, a1, a2, a3⟩ := block4 hb0
    clear hb0
    by_cases ht : t.toList = []
    · have hts := hsn.2 ht
      have hte : t.toList.isEmpty = true := by rw [ht]; rfl
      by_cases hn : n = 0
      · subst hn
        have HP : Hid (PX = true) := Lib.hid (by rw [← hPX]; unfold plainK; simp [*])
        clear hPX hsn
        go_enter Tryz.func72, Tryz.ntmps72
        go_wp2_with fail
        go_ret
        exact ⟨rfl, hB1⟩
      · have hn0 : (n != 0) = true := by simp; omega
        have hn2 : (n == 0) = false := by simp; omega
        by_cases hn1 : n = 1
        · subst hn1
          have HP : Hid (PX = true) := Lib.hid (by rw [← hPX]; unfold plainK; simp [*])
          clear hPX hsn
          go_enter Tryz.func72, Tryz.ntmps72
          go_wp2_with fail
          go_ret
          exact ⟨rfl, hB1⟩
        · have hn3 : (n == 1) = false := by simp; omega
          have HP : Hid (PX = false) := Lib.hid (by rw [← hPX]; unfold plainK; simp [*])
          exact absurd (HP.out.symm.trans HK2.out) (by decide)
    · have hts : ¬ t.size = 0 := fun h => ht (hsn.1 h)
      have hte : t.toList.isEmpty = false := by cases h : t.toList with | nil => exact absurd h ht | cons => rfl
      have hte2 : (t.toList == []) = false := by cases h : t.toList with | nil => exact absurd h ht | cons => rfl
      have HP : Hid (PX = false) := Lib.hid (by rw [← hPX]; unfold plainK; simp [*])
      exact absurd (HP.out.symm.trans HK2.out) (by decide)
  · obtain ⟨w1, hw1, hB1, hsz, hb0⟩ := box1d w (.int .i64 2) (.int .i64 n) (.string t) (.slice A l.length ca) 39
    obtain ⟨a0, a1, a2, a3⟩ := block4 hb0
    clear hb0
    by_cases ht : t.toList = []
    · have hts := hsn.2 ht
      have hte : t.toList.isEmpty = true := by rw [ht]; rfl
      have HP : Hid (PX = true) := Lib.hid (by rw [← hPX]; unfold plainK; simp [*])
      clear hPX hsn
      go_enter Tryz.func72, Tryz.ntmps72
      go_wp2_with fail
      go_ret
      exact ⟨rfl, hB1⟩
    · have hts : ¬ t.size = 0 := fun h => ht (hsn.1 h)
      have hte : t.toList.isEmpty = false := by cases h : t.toList with | nil => exact absurd h ht | cons => rfl
      have hte2 : (t.toList == []) = false := by cases h : t.toList with | nil => exact absurd h ht | cons => rfl
      have HP : Hid (PX = false) := Lib.hid (by rw [← hPX]; unfold plainK; simp [*])
      exact absurd (HP.out.symm.trans HK2.out) (by decide)
  · obtain ⟨w1, hw1, hB1, hsz, hb0⟩ := box1d w (.int .i64 3) (.int .i64 n) (.string t) (.slice A l.length ca) 39
    obtain ⟨a0, a1, a2, a3⟩ := block4 hb0
    clear hb0
    by_cases hn : n = 0
    · subst hn
      by_cases hs : t.size ≤ 256
      · have hs2 : decide (t.size ≤ 256) = true := by simpa using hs
        have HP : Hid (PX = utfFrom t 0) := Lib.hid (by rw [← hPX]; unfold plainK; simp [*])
        clear hPX hsn
        go_enter Tryz.func72, Tryz.ntmps72
        go_wp2_with (go_at_call 88; refine (utfd_calls _ _ hs (HP.out.symm.trans HK2.out) (tabs_d HT.out hB1)).mono ?_; rintro e w' ⟨rfl, hb3⟩)
        go_ret
        exact ⟨rfl, Bd.trans hB1 hb3⟩
      · have hs2 : decide (t.size ≤ 256) = false := by simpa using hs
        have HP : Hid (PX = false) := Lib.hid (by rw [← hPX]; unfold plainK; simp [*])
        exact absurd (HP.out.symm.trans HK2.out) (by decide)
    · have hn0 : (n != 0) = true := by simp; omega
      have hn2 : (n == 0) = false := by simp; omega
      have HP : Hid (PX = false) := Lib.hid (by rw [← hPX]; unfold plainK; simp [*])
      exact absurd (HP.out.symm.trans HK2.out) (by decide)
  · obtain ⟨w1, hw1, hB1, hsz, hb0⟩ := box1d w (.int .i64 k) (.int .i64 n) (.string t) (.slice A l.length ca) 39
    obtain ⟨a0, a1, a2, a3⟩ := block4 hb0
    clear hb0
    have e1 : (k == 1) = false := by simpa using k1
    have e2 : (k == 2) = false := by simpa using k2
    have e3 : (k == 3) = false := by simpa using k3
    have e4 : (k != 1) = true := by simpa using k1
    have e5 : (k != 2) = true := by simpa using k2
    have e6 : (k != 3) = true := by simpa using k3
    by_cases ht : t.toList = []
    · have hts := hsn.2 ht
      have hte : t.toList.isEmpty = true := by rw [ht]; rfl
      by_cases hn : n = 0
      · subst hn
        by_cases hk : 0 ≤ k ∧ k ≤ 6
        · obtain ⟨hk0, hk6⟩ := hk
          have HP : Hid (PX = true) := Lib.hid (by rw [← hPX]; unfold plainK; simp [*])
          clear hPX hsn
          go_enter Tryz.func72, Tryz.ntmps72
          go_wp2_with fail
          go_ret
          exact ⟨rfl, hB1⟩
        · by_cases hk0 : 0 ≤ k
          · have hk6 : 6 < k := by omega
            have hk7 : decide (k ≤ 6) = false := by simp; omega
            have HP : Hid (PX = false) := Lib.hid (by rw [← hPX]; unfold plainK; simp [*] <;> omega)
            exact absurd (HP.out.symm.trans HK2.out) (by decide)
          · have hk6 : k < 0 := by omega
            have HP : Hid (PX = false) := Lib.hid (by rw [← hPX]; unfold plainK; simp [*] <;> omega)
            exact absurd (HP.out.symm.trans HK2.out) (by decide)
      · have hn0 : (n != 0) = true := by simp; omega
        have hn2 : (n == 0) = false := by simp; omega
        have HP : Hid (PX = false) := Lib.hid (by rw [← hPX]; unfold plainK; simp [*])
        exact absurd (HP.out.symm.trans HK2.out) (by decide)
    · have hts : ¬ t.size = 0 := fun h => ht (hsn.1 h)
      have hte : t.toList.isEmpty = false := by cases h : t.toList with | nil => exact absurd h ht | cons => rfl
      have hte2 : (t.toList == []) = false := by cases h : t.toList with | nil => exact absurd h ht | cons => rfl
      have HP : Hid (PX = false) := Lib.hid (by rw [← hPX]; unfold plainK; simp [*])
      exact absurd (HP.out.symm.trans HK2.out) (by decide)
end Go.Proofs.YtmnblgaefdahhaaGreatDoor
