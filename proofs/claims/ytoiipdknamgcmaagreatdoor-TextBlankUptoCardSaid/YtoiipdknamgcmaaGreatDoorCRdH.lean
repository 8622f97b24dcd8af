/- What is behind a backslash. Texts in quotes, as the reader reads them. -/
import Derived.Deep.RegionHeld3
import Derived.Test.YtoiipdknamgcmaaGreatDoorCRdF
import Derived.Test.YtoiipdknamgcmaaGreatDoorCTxE
/- What is behind a backslash. -/
set_option linter.unusedVariables false
set_option linter.unusedSimpArgs false
namespace Go.Proofs.YtoiipdknamgcmaaGreatDoor
open Go.RowKit Go.Shelf
attribute [local go_sem] lt_succ_of

theorem Bld.but {B b rb : Nat} {bs : List Value} {p : Value} {w w' : World} (h : Lib.BuilderAtF 43 5 B b p bs w) (hk : But (· = rb) w w') (hrb : rb < B) : Lib.BuilderAtF 43 5 B b p bs w' := by
  have hlt := h.lt
  obtain ⟨hB, v, hv, hown, hne⟩ := h
  refine ⟨hB, v, (hk.block b hlt (by omega)).trans hv, hown.kept (row := some rb) ⟨hk.os, hk.tape, hk.output, hk.size, fun k h1 h2 => hk.block k h1 (fun e => h2 (by rw [e]))⟩ (.inr fun e => ?_), hne⟩
  have := (hown.lt rb e).1
  omega
theorem IsB.but {B b rb : Nat} {bs : List Value} {w w' : World} (h : IsB B b bs w) (hk : But (· = rb) w w') (hrb : rb < B) : IsB B b bs w' := h.elim (fun x => .inl (Bld.but x hk hrb)) (fun x => .inr (Bld.but x hk hrb))
theorem RdAt.far {w w' : World} {rb B : Nat} {s : ByteArray} {p f : Nat} (h : RdAt w rb s p f) (hb : Below B w w') (hrb : rb < B) : RdAt w' rb s p f := (hb.block rb hrb).trans h
/-- How reading ends; of the old blocks none but those of M has changed. -/
def PostM (M : Nat → Prop) (s : ByteArray) (w : World) {α : Type} (r : R α) (G : α → Value → World → Prop) (e : Ending) (w' : World) : Prop := match r with
  | .out => False
  | .bad n k => e = .panicked [{ v := .iface 73 (.agg #[.int .i64 n, .int .i64 (s.size - k : Nat)]), recovered := false }] ∧ But M w w'
  | .ok a => (∃ v, e = .returned v ∧ G a v w') ∧ But M w w'
/-- The reader's block and what lies from B on. -/
def Mb (rb B : Nat) (k : Nat) : Prop := k = rb ∨ B ≤ k
theorem But.mb {rb B : Nat} {w w' : World} (h : But (· = rb) w w') : But (Mb rb B) w w' := h.mono fun b _ e => .inl e
theorem But.mbBelow {rb B : Nat} {w w' w'' : World} (h : But (Mb rb B) w w') (hb : Below B w' w'') : But (Mb rb B) w w'' :=
  h.trans ⟨hb.os, hb.tape, hb.output, hb.size, fun k _ hm => hb.block k (Nat.lt_of_not_le fun h => hm (.inr h))⟩
/-- What escaped leaves. -/
def EscG (rb B b : Nat) (bs : List Value) (s : ByteArray) (f : Nat) (p : Bs × Bs) (v : Value) (w' : World) : Prop := ∃ q, q ≤ s.size ∧ RdAt w' rb s q f ∧ sfx s q = p.2 ∧ Bld B b (bs ++ Lib.byteCells p.1) w'
theorem belowN (n m : Nat) (w : World) : Below n w (w.drewN m) := ⟨rfl, rfl, rfl, Nat.le_refl _, fun _ _ => rfl⟩
theorem or_four {a d : Nat} (ha : a < 4096) (hd : d < 16) : bits .or .i32 (wrap32 ((a : Int) * 16)) (d : Int) = ((16 * a + d : Nat) : Int) := by
  have hw : wrap32 ((a : Int) * 16) = (a : Int) * 16 := by unfold wrap32; omega
  rw [hw, bits_join .i32 31 (by decide) (fun n h0 h1 => IntWalk.i32_in n (by constructor <;> omega)) 4 ((a : Int) * 16) d (by omega) (by omega) (by omega) (by omega) (by omega) (by omega)]
  omega
theorem escL_nil (k : Nat) : escL k [] = .bad 21 0 := rfl
theorem escL_34 (k : Nat) (t : Bs) : escL k (34 :: t) = .ok ([34], t) := rfl
theorem escL_92 (k : Nat) (t : Bs) : escL k (92 :: t) = .ok ([92], t) := rfl
theorem escL_110 (k : Nat) (t : Bs) : escL k (110 :: t) = .ok ([10], t) := rfl
theorem escL_116 (k : Nat) (t : Bs) : escL k (116 :: t) = .ok ([9], t) := rfl
theorem escL_114 (k : Nat) (t : Bs) : escL k (114 :: t) = .ok ([13], t) := rfl
theorem escL_117 (k : Nat) (t : Bs) : escL k (117 :: t) = (fourL k 4 0 t).next fun p => if 55296 ≤ p.1 ∧ p.1 ≤ 57343 then .bad 24 k else .ok (Lib.encodeRune (p.1 : Int), p.2) := rfl
theorem escL_other (k : Nat) (c : UInt8) (t : Bs) (h : c ≠ 34 ∧ c ≠ 92 ∧ c ≠ 110 ∧ c ≠ 116 ∧ c ≠ 114 ∧ c ≠ 117) : escL k (c :: t) = .bad 24 k := by
  obtain ⟨h1, h2, h3, h4, h5, h6⟩ := h
  rw [escL, if_neg (by rintro (h | h) <;> contradiction), if_neg h3, if_neg h4, if_neg h5, if_neg h6]
set_option maxRecDepth 100000 in
set_option maxHeartbeats 8000000 in
theorem escaped_calls (rb B b : Nat) (bs : List Value) (s : ByteArray) (p f : Nat) (w : World) (h : RdAt w rb s p f) (hp : p < s.size) (hs : s.size ≤ 65536) (hT : Tabs w) (hr8 : 8 ≤ rb) (hrb : rb < B) (hI : IsB B b bs w) (hBw : B ≤ w.heap.size) (hlen : bs.length ≤ 100000000) :
    Calls Tryz.prog 56 #[.pointer (some ⟨rb, 0, none⟩), .pointer (some ⟨b, 0, none⟩)] w (PostM (Mb rb B) s w (escL (s.size - p) (sfx s (p + 1))) (EscG rb B b bs s f)) := by
  obtain ⟨a0, a1, a2, g1, g2⟩ := h.cells
  have hb := byteAt_eq s
  have hwp : IntKind.i64.wrap ((p : Int) + 1) = ((p + 1 : Nat) : Int) := by rw [show (p : Int) + 1 = ((p + 1 : Nat) : Int) by omega]; exact IntWalk.i64_in _ (by omega)
  have HI := Lib.hid hI
  have hR1 : RdAt (w.setCell ⟨rb, 1, none⟩ (.int .i64 ((p : Int) + 1))) rb s (p + 1) f := h.move (p + 1)
  have HB1 : Hid (But (· = rb) w (w.setCell ⟨rb, 1, none⟩ (.int .i64 ((p : Int) + 1)))) := Lib.hid (But.set (M := fun k => k = rb) (But.of (Below.refl _ _)) (.inr rfl) _)
  obtain ⟨w1, hw1⟩ : ∃ w1, w.setCell ⟨rb, 1, none⟩ (.int .i64 ((p : Int) + 1)) = w1 := ⟨_, rfl⟩
  rw [hw1] at hR1 HB1
  have hsz1 : w.heap.size ≤ w1.heap.size := HB1.out.size
  obtain ⟨c0, c1, c2, f1, f2⟩ := hR1.cells
  have HR1 := Lib.hid hR1
  by_cases hend : p + 1 = s.size
  · rw [sfx_end (by omega)]
    show Calls _ _ _ _ (fun e w' => _ ∧ _)
    go_enter Tryz.func56, Tryz.ntmps56
    have hj : (((p + 1 : Nat) : Int) == (s.size : Int)) = true := by rw [beq_iff_eq]; omega
    go_wp2_with fail
    go_quiet (fail)
    go_wp2_with (go_at_call 25; refine (fail_calls _ _ _ _).mono ?_; rintro e w8 ⟨rfl, rfl⟩)
    exact ⟨rfl, rfl, (But.set (M := Mb rb B) (But.of (Below.refl _ _)) (.inr (.inl rfl)) _).drewN _⟩
  have hlt : p + 1 < s.size := by omega
  rw [sfx_cons hlt]
  obtain ⟨c, hcc⟩ : ∃ c, byteAt s (p + 1) = c := ⟨_, rfl⟩
  have hct : s[p + 1].toNat = c := (hb (p + 1) hlt).trans hcc
  have hj : (((p : Int) + 1) == (s.size : Int)) = false := by rw [beq_eq_false_iff_ne]; omega
  have hj2 : ((p : Int) + 1) < (s.size : Int) := by omega
  have HWB : Hid (∀ (W : World) (x : Int), But (· = rb) w W → RdAt W rb s (p + 2) f → Calls Tryz.prog 49 #[.pointer (some ⟨b, 0, none⟩), .int .u8 x] W fun e w' => e = .returned .nilIface ∧ RdAt w' rb s (p + 2) f ∧ Bld B b (bs ++ [.int .u8 x]) w' ∧ But (Mb rb B) w w') := Lib.hid fun W x hW hR => by
    refine (wbyte_calls B b bs x W (HI.out.but hW hrb) (by omega) (Nat.le_trans hBw hW.size)).mono ?_
    rintro e w' ⟨rfl, hWr⟩
    exact ⟨rfl, hR.far hWr.2.1 hrb, hWr.1, hW.mb.mbBelow hWr.2.1⟩
  by_cases k34 : c = 34
  · subst k34
    have h0 : s[p + 1] = 34 := UInt8.toNat_inj.1 hct
    rw [h0, escL_34]
    show Calls _ _ _ _ (fun e w' => (∃ v, e = .returned v ∧ EscG rb B b bs s f ([34], sfx s (p + 1 + 1)) v w') ∧ _)
    clear h0 hct hI
    go_enter Tryz.func56, Tryz.ntmps56
    go_wp2_with fail
    go_quiet (fail)
    go_wp2_with fail
    go_quiet (fail)
    go_wp2_with (first | (go_at_call 49; refine (HWB.out _ _ (But.set (M := fun k => k = rb) (HB1.out.drewN _) (.inr rfl) _) (RdAt.move (w := w1.drewN _) HR1.out (p + 2))).mono ?_; rintro e w3 ⟨rfl, hR3, hB3, hb3⟩; have HR3 := Lib.hid hR3; have HB3 := Lib.hid hB3; clear hR3 hB3))
    go_end0
    exact ⟨⟨_, rfl, p + 2, by omega, HR3.out, rfl, HB3.out⟩, hb3⟩
  by_cases k92 : c = 92
  · subst k92
    have h0 : s[p + 1] = 92 := UInt8.toNat_inj.1 hct
    rw [h0, escL_92]
    show Calls _ _ _ _ (fun e w' => (∃ v, e = .returned v ∧ EscG rb B b bs s f ([92], sfx s (p + 1 + 1)) v w') ∧ _)
    clear h0 hct hI
    go_enter Tryz.func56, Tryz.ntmps56
    go_wp2_with fail
    go_quiet (fail)
    go_wp2_with fail
    go_quiet (fail)
    go_wp2_with (first | (go_at_call 49; refine (HWB.out _ _ (But.set (M := fun k => k = rb) (HB1.out.drewN _) (.inr rfl) _) (RdAt.move (w := w1.drewN _) HR1.out (p + 2))).mono ?_; rintro e w3 ⟨rfl, hR3, hB3, hb3⟩; have HR3 := Lib.hid hR3; have HB3 := Lib.hid hB3; clear hR3 hB3))
    go_end0
    exact ⟨⟨_, rfl, p + 2, by omega, HR3.out, rfl, HB3.out⟩, hb3⟩
  by_cases k110 : c = 110
  · subst k110
    have h0 : s[p + 1] = 110 := UInt8.toNat_inj.1 hct
    rw [h0, escL_110]
    show Calls _ _ _ _ (fun e w' => (∃ v, e = .returned v ∧ EscG rb B b bs s f ([10], sfx s (p + 1 + 1)) v w') ∧ _)
    clear h0 hct hI
    go_enter Tryz.func56, Tryz.ntmps56
    go_wp2_with fail
    go_quiet (fail)
    go_wp2_with fail
    go_quiet (fail)
    go_wp2_with (first | (go_at_call 49; refine (HWB.out _ _ (But.set (M := fun k => k = rb) (HB1.out.drewN _) (.inr rfl) _) (RdAt.move (w := w1.drewN _) HR1.out (p + 2))).mono ?_; rintro e w3 ⟨rfl, hR3, hB3, hb3⟩; have HR3 := Lib.hid hR3; have HB3 := Lib.hid hB3; clear hR3 hB3))
    go_end0
    exact ⟨⟨_, rfl, p + 2, by omega, HR3.out, rfl, HB3.out⟩, hb3⟩
  by_cases k116 : c = 116
  · subst k116
    have h0 : s[p + 1] = 116 := UInt8.toNat_inj.1 hct
    rw [h0, escL_116]
    show Calls _ _ _ _ (fun e w' => (∃ v, e = .returned v ∧ EscG rb B b bs s f ([9], sfx s (p + 1 + 1)) v w') ∧ _)
    clear h0 hct hI
    go_enter Tryz.func56, Tryz.ntmps56
    go_wp2_with fail
    go_quiet (fail)
    go_wp2_with fail
    go_quiet (fail)
    go_wp2_with (first | (go_at_call 49; refine (HWB.out _ _ (But.set (M := fun k => k = rb) (HB1.out.drewN _) (.inr rfl) _) (RdAt.move (w := w1.drewN _) HR1.out (p + 2))).mono ?_; rintro e w3 ⟨rfl, hR3, hB3, hb3⟩; have HR3 := Lib.hid hR3; have HB3 := Lib.hid hB3; clear hR3 hB3))
    go_end0
    exact ⟨⟨_, rfl, p + 2, by omega, HR3.out, rfl, HB3.out⟩, hb3⟩
  by_cases k114 : c = 114
  · subst k114
    have h0 : s[p + 1] = 114 := UInt8.toNat_inj.1 hct
    rw [h0, escL_114]
    show Calls _ _ _ _ (fun e w' => (∃ v, e = .returned v ∧ EscG rb B b bs s f ([13], sfx s (p + 1 + 1)) v w') ∧ _)
    clear h0 hct hI
    go_enter Tryz.func56, Tryz.ntmps56
    go_wp2_with fail
    go_quiet (fail)
    go_wp2_with fail
    go_quiet (fail)
    go_wp2_with (first | (go_at_call 49; refine (HWB.out _ _ (But.set (M := fun k => k = rb) (HB1.out.drewN _) (.inr rfl) _) (RdAt.move (w := w1.drewN _) HR1.out (p + 2))).mono ?_; rintro e w3 ⟨rfl, hR3, hB3, hb3⟩; have HR3 := Lib.hid hR3; have HB3 := Lib.hid hB3; clear hR3 hB3))
    go_end0
    exact ⟨⟨_, rfl, p + 2, by omega, HR3.out, rfl, HB3.out⟩, hb3⟩
  by_cases k117 : c = 117
  · subst k117
    have h0 : s[p + 1] = 117 := UInt8.toNat_inj.1 hct
    rw [h0, escL_117]
    obtain ⟨KK, hKK⟩ : ∃ KK, s.size - p = KK := ⟨_, rfl⟩
    have hKp : s.size - KK = p := by omega
    rw [hKK]
    clear h0 hct hI
    go_enter Tryz.func56, Tryz.ntmps56
    go_wp2_with fail
    go_quiet (fail)
    go_wp2_with fail
    go_quiet (fail)
    go_wp2_with fail
    go_loopw [77, 6] (fun vi vn wr => ∃ i a q : Nat, vi = .int .i64 i ∧ vn = .int .i32 a ∧ i ≤ 4 ∧ a < 16 ^ i ∧ q ≤ s.size ∧ Hid (RdAt wr rb s q f) ∧ Hid (fourL KK (4 - i) a (sfx s q) = fourL KK 4 0 (sfx s (p + 1 + 1))) ∧ Hid (But (· = rb) w wr)) (fun vi _ _ => 4 - (intOf vi).toNat)
    case atStart => exact ⟨0, 0, p + 1 + 1, rfl, rfl, by omega, by omega, by omega, Lib.hid (RdAt.move (w := w1.drewN _) HR1.out (p + 2)), Lib.hid rfl, Lib.hid (But.set (M := fun k => k = rb) (HB1.out.drewN _) (.inr rfl) _)⟩
    case round =>
      obtain ⟨i, a, q, rfl, rfl, hi, ha, hq, hR, hE, hB⟩ := hrel
      obtain ⟨x0, x1, x2, y1, y2⟩ := hR.out.cells
      by_cases hi4 : i < 4
      · have hia : (i : Int) < 4 := by omega
        by_cases hqe : q = s.size
        · subst hqe
          have hE1 : fourL KK 4 0 (sfx s (p + 1 + 1)) = .bad 21 0 := by
            rw [← hE.out, sfx_end (Nat.le_refl _), show 4 - i = (3 - i) + 1 by omega]
            rfl
          have HE1 := Lib.hid hE1
          have hjq : ((s.size : Int) == (s.size : Int)) = true := by simp
          clear hE1
          go_wp2_with fail
          go_quiet (fail)
          go_wp2_with (go_at_call 25; refine (fail_calls _ _ _ _).mono ?_; rintro e w8 ⟨rfl, rfl⟩)
          rw [HE1.out, R.next_bad]
          exact ⟨rfl, rfl, (hB.out.drewN _).mb⟩
        · have hlt2 : q < s.size := by omega
          have hjq : ((q : Int) == (s.size : Int)) = false := by rw [beq_eq_false_iff_ne]; omega
          have hq1 : ((q : Int) + 1) ≤ (s.size : Int) := by omega
          have hqi : (q : Int) ≤ (s.size : Int) := by omega
          obtain ⟨k, hk⟩ : ∃ k, q + 1 = k := ⟨_, rfl⟩
          have hwk : IntKind.i64.wrap ((q : Int) + 1) = (k : Int) := by rw [← hk]; exact (IntWalk.i64_in _ (by omega)).trans (by omega)
          have hwk2 : IntKind.i64.wrap (k : Int) = (k : Int) := IntWalk.i64_in _ (by omega)
          have hqk : q ≤ k := by omega
          have hks : k ≤ s.size := by omega
          have hqk2 : (q : Int) ≤ (k : Int) := by omega
          have hks2 : (k : Int) ≤ (s.size : Int) := by omega
          have hx : s.extract q k = ⟨#[s[q]]⟩ := extract_bytes s q k (by omega) (by omega) (w := [s[q]]) (by rw [← hk]; exact (sfx_cons hlt2).symm)
          have hstep : fourL KK (4 - i) a (sfx s q) = match hexD s[q] with | none => .bad 24 KK | some d => fourL KK (3 - i) (16 * a + d) (sfx s (q + 1)) := by
            rw [sfx_cons hlt2, show 4 - i = (3 - i) + 1 by omega]
            rfl
          have HPU := Lib.hid fun W (hW : Below wr.heap.size wr W) => hexu_calls s[q] W ((hT.later (hB.out.below (n := 8) (Nat.le_trans hT.big (Nat.le_refl _)) (by rintro k rfl; exact hr8)) (Nat.le_refl _)).later (hW.mono (Nat.le_trans hT.big hB.out.size)) (Nat.le_refl _))
          rw [← hx] at HPU
          cases hd : hexD s[q] with
          | none =>
            rw [hd] at HPU
            have HE1 : Hid (fourL KK 4 0 (sfx s (p + 1 + 1)) = .bad 24 KK) := Lib.hid (by rw [← hE.out, hstep, hd])
            clear hstep hx hd hq1 hqi
            go_wp2_with fail
            go_quiet (fail)
            go_wp2_with fail
            go_region_held3 (fun w' => w'.cell? ⟨rb, 0, none⟩ = some (.string s) ∧ w'.cell? ⟨rb, 1, none⟩ = some (.int .i64 q))
              (first | go_keep | exact ⟨cellB (by assumption) x0, cellB (by assumption) x1⟩)
              (first | (go_at_call 74; refine (HPU.out _ (by first | exact belowN _ _ _ | exact Below.refl _ _)).mono ?_; rintro e w3 ⟨⟨N, rfl⟩, hb3⟩; have hb4 := below_undrewN hb3; clear hb3))
            go_wp2_with (go_at_call 25; refine (fail_calls _ _ _ _).mono ?_; rintro e w8 ⟨rfl, rfl⟩)
            rw [HE1.out, R.next_bad]
            unfold PostM
            dsimp only
            rw [hKp]
            exact ⟨rfl, rfl, (hB.out.trans (But.of hb4)).mb⟩
          | some d =>
            rw [hd] at HPU
            have hd16 : d < 16 := by
              unfold hexD at hd
              split at hd
              · injection hd with hd; omega
              split at hd
              · injection hd with hd; omega
              split at hd
              · injection hd with hd; omega
              · cases hd
            have HE1 : Hid (fourL KK (4 - (i + 1)) (16 * a + d) (sfx s (q + 1)) = fourL KK 4 0 (sfx s (p + 1 + 1))) := Lib.hid (by rw [← hE.out, hstep, hd, show 4 - (i + 1) = 3 - i by omega])
            clear hstep hx hd hq1 hqi
            go_wp2_with fail
            go_quiet (fail)
            go_wp2_with fail
            go_region_held3 (fun w' => w'.cell? ⟨rb, 0, none⟩ = some (.string s) ∧ w'.cell? ⟨rb, 1, none⟩ = some (.int .i64 q))
              (first | go_keep | exact ⟨cellB (by assumption) x0, cellB (by assumption) x1⟩)
              (first | (go_at_call 74; refine (HPU.out _ (by first | exact belowN _ _ _ | exact Below.refl _ _)).mono ?_; rintro e w3 ⟨rfl, hb3⟩; have hb4 := below_undrewN hb3; have hR3 := Lib.hid (hR.out.keep hb4); have fz3 := hR3.out.cells.2.2.2.1; clear hb3))
            go_wp2_with fail
            have ha3 : a < 4096 := Nat.lt_of_lt_of_le ha (Nat.pow_le_pow_right (by decide) (by omega) : 16 ^ i ≤ 16 ^ 3)
            have hk16 : 16 * a + d < 16 ^ (i + 1) := by rw [Nat.pow_succ]; omega
            subst hk
            exact ⟨⟨i + 1, 16 * a + d, q + 1, rfl, by rw [or_four ha3 hd16], by omega, hk16, by omega, Lib.hid (hR3.out.move (q + 1)), HE1, Lib.hid ((hB.out.trans (But.of hb4)).set (.inr rfl) _)⟩, by simp [intOf]; omega⟩
      · obtain rfl : i = 4 := by omega
        have hF : fourL KK 4 0 (sfx s (p + 1 + 1)) = .ok (a, sfx s q) := hE.out.symm
        have ha2 : a < 65536 := ha
        have HF := Lib.hid hF
        by_cases hsur : 55296 ≤ a ∧ a ≤ 57343
        · have d1 : decide ((55296 : Int) ≤ (a : Int)) = true := decide_eq_true (by omega)
          have d2 : decide ((a : Int) ≤ 57343) = true := decide_eq_true (by omega)
          have hs2 := Lib.hid hsur
          clear hsur hF
          go_wp2_with (go_at_call 25; refine (fail_calls _ _ _ _).mono ?_; rintro e w8 ⟨rfl, rfl⟩)
          rw [HF.out, R.next_ok, if_pos hs2.out]
          unfold PostM
          dsimp only
          rw [hKp]
          exact ⟨rfl, rfl, hB.out.mb⟩
        · have d1 : (decide ((55296 : Int) ≤ (a : Int)) && decide ((a : Int) ≤ 57343)) = false := by
            rw [← Bool.not_eq_true, Bool.and_eq_true, decide_eq_true_iff, decide_eq_true_iff]
            omega
          have hs2 := Lib.hid hsur
          have HWR : Hid (∀ W, But (· = rb) w W → RdAt W rb s q f → Calls Tryz.prog 50 #[.pointer (some ⟨b, 0, none⟩), .int .i32 a] W fun e w' => (∃ k : Nat, e = .returned (.tuple #[.int .i64 k, .nilIface])) ∧ RdAt w' rb s q f ∧ Bld B b (bs ++ Lib.runeCells (a : Int)) w' ∧ But (Mb rb B) w w') := Lib.hid fun W hW hR => by
            refine (wrune_calls B b bs a (by omega) (by omega) W (HI.out.but hW hrb) (by omega) (Nat.le_trans hBw hW.size)).mono ?_
            rintro e w' ⟨hk, hWr⟩
            exact ⟨hk, hR.far hWr.2.1 hrb, hWr.1, hW.mb.mbBelow hWr.2.1⟩
          have hsr : (a : Int) < 55296 ∨ (55296 ≤ (a : Int) ∧ 57343 < (a : Int)) := by omega
          clear hsur hF d1
          rcases hsr with hsr | ⟨hsr, hsr2⟩
          · have d1 : decide ((55296 : Int) ≤ (a : Int)) = false := decide_eq_false (by omega)
            clear hsr
            go_wp2_with (go_at_call 50; refine (HWR.out _ hB.out hR.out).mono ?_; rintro e w3 ⟨⟨kk, rfl⟩, hR3, hB3, hb3⟩; have HR3 := Lib.hid hR3; have HB3 := Lib.hid hB3; clear hR3 hB3)
            go_end0
            rw [HF.out, R.next_ok, if_neg hs2.out]
            exact ⟨⟨_, rfl, q, hq, HR3.out, rfl, by have := HB3.out; rwa [← Lib.byteCells_encodeRune] at this⟩, hb3⟩
          · have d1 : decide ((55296 : Int) ≤ (a : Int)) = true := decide_eq_true (by omega)
            have d2 : decide ((a : Int) ≤ 57343) = false := decide_eq_false (by omega)
            clear hsr hsr2
            go_wp2_with (go_at_call 50; refine (HWR.out _ hB.out hR.out).mono ?_; rintro e w3 ⟨⟨kk, rfl⟩, hR3, hB3, hb3⟩; have HR3 := Lib.hid hR3; have HB3 := Lib.hid hB3; clear hR3 hB3)
            go_end0
            rw [HF.out, R.next_ok, if_neg hs2.out]
            exact ⟨⟨_, rfl, q, hq, HR3.out, rfl, by have := HB3.out; rwa [← Lib.byteCells_encodeRune] at this⟩, hb3⟩

  have h0 : s[p + 1] ≠ 34 ∧ s[p + 1] ≠ 92 ∧ s[p + 1] ≠ 110 ∧ s[p + 1] ≠ 116 ∧ s[p + 1] ≠ 114 ∧ s[p + 1] ≠ 117 := by
    refine ⟨?_, ?_, ?_, ?_, ?_, ?_⟩ <;> intro e <;> rw [e] at hct
    · exact k34 hct.symm
    · exact k92 hct.symm
    · exact k110 hct.symm
    · exact k116 hct.symm
    · exact k114 hct.symm
    · exact k117 hct.symm
  rw [escL_other _ _ _ h0]
  have q1 : ((c : Int) == 34) = false := by rw [beq_eq_false_iff_ne]; omega
  have q2 : ((c : Int) == 92) = false := by rw [beq_eq_false_iff_ne]; omega
  have q3 : ((c : Int) == 110) = false := by rw [beq_eq_false_iff_ne]; omega
  have q4 : ((c : Int) == 116) = false := by rw [beq_eq_false_iff_ne]; omega
  have q5 : ((c : Int) == 114) = false := by rw [beq_eq_false_iff_ne]; omega
  have q6 : ((c : Int) == 117) = false := by rw [beq_eq_false_iff_ne]; omega
  show Calls _ _ _ _ (fun e w' => e = .panicked [{ v := .iface 73 (.agg #[.int .i64 24, .int .i64 ((s.size - (s.size - p) : Nat) : Int)]), recovered := false }] ∧ _)
  rw [show s.size - (s.size - p) = p by omega]
  clear h0 hct hI k34 k92 k110 k116 k114 k117
  go_enter Tryz.func56, Tryz.ntmps56
  go_wp2_with fail
  go_quiet (fail)
  go_wp2_with fail
  go_quiet (fail)
  go_wp2_with (go_at_call 25; refine (fail_calls _ _ _ _).mono ?_; rintro e w8 ⟨rfl, rfl⟩)
  exact ⟨rfl, rfl, (But.set (M := fun k => k = rb) (HB1.out.drewN _) (.inr rfl) _).mb⟩
end Go.Proofs.YtoiipdknamgcmaaGreatDoor

/- Texts in quotes, as the reader reads them. -/
set_option linter.unusedVariables false
set_option linter.unusedSimpArgs false
namespace Go.Proofs.YtoiipdknamgcmaaGreatDoor
open Go.RowKit Go.Shelf
attribute [local go_sem] lt_succ_of

theorem isB_new' (w : World) : ∃ w1, w.alloc (.cells #[.pointer none, .slice none 0 0] 43) = w1 ∧ Below w.heap.size w w1 ∧ w.heap.size + 1 = w1.heap.size ∧ IsB w.heap.size w.heap.size [] w1 :=
  ⟨_, rfl, (Below.refl _ _).alloc (Nat.le_refl _) _, by simp, .inl ⟨Nat.le_refl _, _, heap_alloc_new w _, ⟨rfl, .inl ⟨rfl, rfl⟩⟩, by simp [Value.ownBlock]⟩⟩
theorem escL_len (k : Nat) (l : Bs) (p : Bs × Bs) (h : escL k l = .ok p) : p.1.length ≤ 4 := by
  cases l with
  | nil => cases h
  | cons c t =>
    rw [escL] at h
    split at h
    · injection h with h; subst h; simp
    split at h
    · injection h with h; subst h; simp
    split at h
    · injection h with h; subst h; simp
    split at h
    · injection h with h; subst h; simp
    split at h
    · obtain ⟨q, h1, h2⟩ := R.next_eq_ok h
      split at h2
      · cases h2
      · injection h2 with h2
        subst h2
        have := Lib.runeCells_le (q.1 : Int)
        rw [← Lib.byteCells_encodeRune] at this
        have h2 : (Lib.encodeRune (q.1 : Int)).length ≤ 4 := by
          have h3 := this.2
          rwa [Lib.byteCells, List.length_map] at h3
        exact h2
    · cases h
theorem escL_in (k : Nat) (l : Bs) : escL k l ≠ .out := by
  intro h1
  have hf : ∀ (k m a : Nat) (l : Bs), fourL k m a l ≠ .out := by
    intro k m
    induction m with
    | zero => intro a l e; cases e
    | succ m ih =>
      intro a l e
      cases l with
      | nil => cases e
      | cons c t =>
        rw [fourL] at e
        split at e
        · cases e
        · exact ih _ _ e
  cases l with
  | nil => cases h1
  | cons c' t' =>
    rw [escL] at h1
    split at h1; cases h1
    split at h1; cases h1
    split at h1; cases h1
    split at h1; cases h1
    split at h1
    · cases h2 : fourL k 4 0 t' with
      | out => exact hf _ _ _ _ h2
      | bad e k => rw [h2] at h1; cases h1
      | ok a => rw [h2, R.next_ok] at h1; split at h1 <;> cases h1
    · cases h1
def TextG (rb : Nat) (s : ByteArray) (f : Nat) (p : Bs × Bs) (v : Value) (w' : World) : Prop := v = .string ⟨p.1.toArray⟩ ∧ ∃ q, q ≤ s.size ∧ RdAt w' rb s q f ∧ sfx s q = p.2
/-- The state of the round. -/
def TI (rb B : Nat) (s : ByteArray) (f : Nat) (w : World) (T0 : R (Bs × Bs)) (wr : World) (q n : Nat) (bs : Bs) : Prop := RdAt wr rb s q f ∧ IsB B B (Lib.byteCells bs) wr ∧ s.size - q < n ∧ T0 = ((textF n (sfx s q)).next fun r => .ok (bs ++ r.1, r.2)) ∧ bs.length ≤ 4 * q ∧ But (Mb rb B) w wr
set_option maxRecDepth 100000 in
set_option maxHeartbeats 8000000 in
theorem text_calls (rb : Nat) (s : ByteArray) (p f : Nat) (w : World) (h : RdAt w rb s p f) (hp : p < s.size) (hs : s.size ≤ 65536) (hT : Tabs w) (hr8 : 8 ≤ rb) :
    Calls Tryz.prog 40 #[.pointer (some ⟨rb, 0, none⟩)] w (PostM (· = rb) s w (textF (s.size - p) (sfx s (p + 1))) (TextG rb s f)) := by
  have hb := byteAt_eq s
  obtain ⟨w1, hw1, hB1, hsz1, hI1⟩ := isB_new' w
  obtain ⟨B, hB⟩ : ∃ B, w.heap.size = B := ⟨_, rfl⟩
  have hrb : rb < B := by have := h.lt; omega
  have hR1 := h.keep hB1
  rw [hB] at hB1 hsz1 hI1
  obtain ⟨a0, a1, a2, g1, g2⟩ := hR1.cells
  have hR2 : RdAt (w1.setCell ⟨rb, 1, none⟩ (.int .i64 ((p : Int) + 1))) rb s (p + 1) f := hR1.move (p + 1)
  have hbut1 : But (fun k => k = rb) w1 (w1.setCell ⟨rb, 1, none⟩ (.int .i64 ((p : Int) + 1))) := But.set (M := fun k => k = rb) (But.of (Below.refl _ _)) (.inr rfl) _
  have hI2 := hI1.but hbut1 hrb
  obtain ⟨w2, hw2⟩ : ∃ w2, w1.setCell ⟨rb, 1, none⟩ (.int .i64 ((p : Int) + 1)) = w2 := ⟨_, rfl⟩
  rw [hw2] at hR2 hI2 hbut1
  obtain ⟨T0, hT0⟩ : ∃ T0, textF (s.size - p) (sfx s (p + 1)) = T0 := ⟨_, rfl⟩
  rw [hT0]
  have hTI : Hid (TI rb B s f w T0 w2 (p + 1) (s.size - p) []) := Lib.hid ⟨hR2, hI2, by omega, by
    rw [← hT0]
    cases textF (s.size - p) (sfx s (p + 1)) with
    | out => rfl
    | bad e k => rfl
    | ok a => rfl, by simp, (But.of (by rw [hB]; exact hB1)).trans hbut1.mb⟩
  have HT := Lib.hid hT
  clear hR1 hI1 hR2 hI2 hbut1 hT0 hT
  go_enter Tryz.func40, Tryz.ntmps40
  go_wp2_with fail
  go_loopw [] (fun wr => ∃ q n bs, q ≤ s.size ∧ Hid (TI rb B s f w T0 wr q n bs)) (fun wr => s.size - atOf wr rb)
  case atStart => exact ⟨p + 1, _, [], by omega, hTI⟩
  case round =>
    obtain ⟨q, n, bs, hq, hti⟩ := hrel
    obtain ⟨hR, hI, hn, hE, hL, hBu⟩ := hti.out
    obtain ⟨x0, x1, x2, y1, y2⟩ := hR.cells
    have HI := Lib.hid hI
    have HR := Lib.hid hR
    have HBu := Lib.hid hBu
    have hBs : B ≤ wr.heap.size := by have := hBu.size; omega
    obtain ⟨m, rfl⟩ : ∃ m, n = m + 1 := ⟨n - 1, by omega⟩
    have hbl : (Lib.byteCells bs).length ≤ 300000 := by rw [Lib.byteCells, List.length_map]; omega
    clear hI hBu hti
    by_cases hqe : q = s.size
    · subst hqe
      rw [sfx_end (Nat.le_refl _)] at hE
      obtain rfl : T0 = .bad 21 0 := hE
      have hjq : ((s.size : Int) == (s.size : Int)) = true := by simp
      clear hR
      go_wp2_with fail
      go_quiet (fail)
      go_wp2_with (go_at_call 25; refine (fail_calls _ _ _ _).mono ?_; rintro e w8 ⟨rfl, rfl⟩)
      exact ⟨rfl, rfl, (HBu.out.drewN _).mono (fun k hk h => h.elim id fun h => absurd hk (by omega))⟩
    have hlt : q < s.size := by omega
    have hjq : ((q : Int) == (s.size : Int)) = false := by rw [beq_eq_false_iff_ne]; omega
    have hjl : (q : Int) < (s.size : Int) := by omega
    rw [sfx_cons hlt, textF] at hE
    obtain ⟨c, hcc⟩ : ∃ c, byteAt s q = c := ⟨_, rfl⟩
    have hct : s[q].toNat = c := (hb q hlt).trans hcc
    by_cases c34 : c = 34
    · subst c34
      rw [if_pos (UInt8.toNat_inj.1 hct), R.next_ok] at hE
      subst hE
      rw [List.append_nil]
      have HS : Hid (∀ W, But (· = rb) wr W → RdAt W rb s (q + 1) f → Calls Tryz.prog 16 #[.pointer (some ⟨B, 0, none⟩)] W fun e w' => e = .returned (.string ⟨bs.toArray⟩) ∧ RdAt w' rb s (q + 1) f ∧ But (Mb rb B) wr w') := Lib.hid fun W hW hR => by
        refine (Tryz.Builder_String_any_k B B bs W (HI.out.but hW hrb) (Nat.le_trans hBs hW.size)).mono ?_
        rintro e w' ⟨rfl, _, hb, _⟩
        exact ⟨rfl, hR.far hb hrb, hW.mb.mbBelow hb⟩
      clear hR hct
      go_wp2_with fail
      go_quiet (fail)
      go_wp2_with fail
      go_quiet (fail)
      go_wp2_with (go_at_call 16; refine (HS.out _ (But.set (M := fun k => k = rb) ((But.of (Below.refl _ _)).drewN _) (.inr rfl) _) (RdAt.move (w := wr.drewN _) HR.out (q + 1))).mono ?_; rintro e w3 ⟨rfl, hR3, hb3⟩; have HR3 := Lib.hid hR3; clear hR3)
      go_ret
      exact ⟨⟨_, rfl, rfl, q + 1, by omega, HR3.out, rfl⟩, (HBu.out.trans hb3).mono (fun k hk h => h.elim id fun h => absurd hk (by omega))⟩
    have q34 : ((c : Int) == 34) = false := by rw [beq_eq_false_iff_ne]; omega
    rw [if_neg (fun h => c34 (by rw [← hct, h]; rfl))] at hE
    by_cases c92 : c = 92
    · subst c92
      rw [if_pos (UInt8.toNat_inj.1 hct), sfx_length, show s.size - (q + 1) + 1 = s.size - q by omega] at hE
      have HC := Lib.hid fun W (hW : Below wr.heap.size wr W) => escaped_calls rb B B (Lib.byteCells bs) s q f W (hR.keep hW) hlt hs (((HT.out.later ((HBu.out.below (n := 8) HT.out.big (by rintro k (rfl | h) <;> omega))) (Nat.le_refl _))).later (hW.mono (Nat.le_trans HT.out.big HBu.out.size)) (Nat.le_refl _)) hr8 hrb (IsB.below HI.out hW) (Nat.le_trans hBs hW.size) (by omega)
      have hgt := escL_le (s.size - q) (sfx s (q + 1))
      have hl4 := escL_len (s.size - q) (sfx s (q + 1))
      cases hesc : escL (s.size - q) (sfx s (q + 1)) with
      | out => exact absurd hesc (escL_in _ _)
      | bad er k =>
        rw [hesc] at HC hE
        obtain rfl : T0 = .bad er k := hE
        clear hR hct hgt hl4 hesc
        go_wp2_with fail
        go_quiet (fail)
        go_wp2_with fail
        go_quiet (fail)
        go_wp2_with (go_at_call 56; refine (HC.out _ (belowN _ _ _)).mono ?_; rintro e w3 ⟨rfl, hb3⟩)
        exact ⟨rfl, rfl, ((HBu.out.drewN _).trans hb3).mono (fun k hk h => h.elim id fun h => absurd hk (by omega))⟩
      | ok a =>
        rw [hesc] at HC hE
        have hgt := hgt a hesc
        have hl4 := hl4 a hesc
        rw [sfx_length] at hgt
        have HE := Lib.hid hE
        clear hR hct hesc hE
        go_wp2_with fail
        go_quiet (fail)
        go_wp2_with fail
        go_quiet (fail)
        go_wp2_with (go_at_call 56; refine (HC.out _ (belowN _ _ _)).mono ?_; rintro e w3 ⟨⟨v, rfl, q3, hq3, hR3, hs3, hB3⟩, hb3⟩)
        have hgl := congrArg List.length hs3
        rw [sfx_length] at hgl
        have hb5 := (HBu.out.drewN _).trans hb3
        refine ⟨⟨q3, m, bs ++ a.1, hq3, Lib.hid ⟨hR3, .inr (by rw [Lib.byteCells_append]; exact hB3), by omega, ?_, by rw [List.length_append]; omega, hb5⟩⟩, by rw [hR3.at, HR.out.at]; omega⟩
        rw [HE.out, R.next_ok, ← hs3]
        cases textF m (sfx s q3) with
        | out => rfl
        | bad e k => rfl
        | ok r => simp [R.next, List.append_assoc]
    have q92 : ((c : Int) == 92) = false := by rw [beq_eq_false_iff_ne]; omega
    rw [if_neg (fun h => c92 (by rw [← hct, h]; rfl))] at hE
    have HE := Lib.hid hE
    have HWB : Hid (∀ W, Below wr.heap.size wr W → Calls Tryz.prog 49 #[.pointer (some ⟨B, 0, none⟩), .int .u8 c] W fun e w' => e = .returned .nilIface ∧ RdAt w' rb s q f ∧ IsB B B (Lib.byteCells bs ++ [.int .u8 c]) w' ∧ But (Mb rb B) wr w') := Lib.hid fun W hW => by
      refine (wbyte_calls B B (Lib.byteCells bs) c W (IsB.below HI.out hW) (by omega) (Nat.le_trans hBs hW.size)).mono ?_
      rintro e w' ⟨rfl, hWr⟩
      exact ⟨rfl, (HR.out.keep hW).far hWr.2.1 hrb, .inr hWr.1, (But.of hW).mbBelow hWr.2.1⟩
    have HCT := Lib.hid hct
    clear hR hE hct
    go_wp2_with fail
    go_quiet (fail)
    go_wp2_with fail
    go_quiet (fail)
    go_wp2_with (go_at_call 49; refine (HWB.out _ (belowN _ _ _)).mono ?_; rintro e w3 ⟨rfl, hR3, hI3, hb3⟩; have HR3 := Lib.hid hR3; have HI3 := Lib.hid hI3; obtain ⟨k0, k1, k2, z1, z2⟩ := hR3.cells; clear hR3 hI3)
    have hR4 := HR3.out.move (q + 1)
    refine ⟨⟨q + 1, m, bs ++ [s[q]], by omega, Lib.hid ⟨hR4, ?_, by omega, ?_, by rw [List.length_append, List.length_singleton]; omega, (HBu.out.trans hb3).set (.inr (.inl rfl)) _⟩⟩, ?_⟩
    · rw [Lib.byteCells_append, show Lib.byteCells [s[q]] = [.int .u8 c] by rw [← HCT.out]; rfl]
      exact HI3.out.but (rb := rb) (But.set (M := fun k => k = rb) (But.of (Below.refl _ _)) (.inr rfl) _) hrb
    · rw [HE.out]
      cases textF m (sfx s (q + 1)) with
      | out => rfl
      | bad e k => rfl
      | ok r => simp [R.next, List.append_assoc]
    · rw [show ((q : Int) + 1) = ((q + 1 : Nat) : Int) by omega, hR4.at, HR.out.at]
      omega
end Go.Proofs.YtoiipdknamgcmaaGreatDoor
