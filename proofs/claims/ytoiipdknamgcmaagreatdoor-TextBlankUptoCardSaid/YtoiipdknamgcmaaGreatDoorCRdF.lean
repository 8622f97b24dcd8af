/- The reader's words as values. One digit of 0 to f. -/
import Derived.Test.YtoiipdknamgcmaaGreatDoorCRdE
/- The reader's words as values. -/
set_option linter.unusedVariables false
set_option linter.unusedSimpArgs false
namespace Go.Proofs.YtoiipdknamgcmaaGreatDoor
open Go.RowKit Go.Shelf
attribute [local go_sem] lt_succ_of

/-- How reading ends. -/
def Post (s : ByteArray) (rb : Nat) (w : World) {α : Type} (r : R α) (G : α → Value → World → Prop) (e : Ending) (w' : World) : Prop := match r with
  | .out => False
  | .bad n k => e = .panicked [{ v := .iface 73 (.agg #[.int .i64 n, .int .i64 (s.size - k : Nat)]), recovered := false }] ∧ But (· = rb) w w'
  | .ok a => (∃ v, e = .returned v ∧ G a v w') ∧ But (· = rb) w w'
def atomV (v : V) : Value := .agg #[.int .i64 v.kind, .int .i64 v.num, .string v.text, .slice none 0 0]
theorem asVal (a b c d : Value) (w : World) : (Instr.typeAssert (.iface 24 (.agg #[a, b, c, d])) 93 24 true).run Tryz.prog w = .ok (.tuple #[.agg #[a, b, c, d], .bool true]) w := by kernel_rfl
theorem asNot (w : World) : (Instr.typeAssert .nilIface 93 24 true).run Tryz.prog w = .ok (.tuple #[.agg #[.int .i64 0, .int .i64 0, .string ⟨#[]⟩, .slice none 0 0], .bool false]) w := by kernel_rfl
theorem RdAt.other {w : World} {rb : Nat} {s : ByteArray} {p f : Nat} (h : RdAt w rb s p f) {a : Addr} (hne : rb ≠ a.block) (u : Value) : RdAt (w.setCell a u) rb s p f := blockother h hne u
theorem numL_nil : numL [] = none := rfl
theorem bytes_ne {a b : Bs} (h : a ≠ b) : ((⟨a.toArray⟩ : ByteArray).toList == b) = false := by
  rw [beq_eq_false_iff_ne]
  intro e
  rw [Lib.toList_data] at e
  exact h e
set_option maxRecDepth 100000 in
set_option maxHeartbeats 4000000 in
theorem worded_calls (rb : Nat) (s : ByteArray) (p f : Nat) (w : World) (h : RdAt w rb s p f) (hp : p ≤ s.size) (hs : s.size ≤ 65536) (hT : Tabs w) (hrb : 8 ≤ rb) :
    Calls Tryz.prog 44 #[.pointer (some ⟨rb, 0, none⟩)] w (Post s rb w (wordV (wordL (sfx s p)) (s.size - p)) fun v vx w' => vx = atomV v ∧ ∃ q, q ≤ s.size ∧ RdAt w' rb s q f ∧ sfx s q = restL (sfx s p)) := by
  obtain ⟨w1, hw1, hB1, hsz1, hb1⟩ := box1 w (.int .i64 0) (.int .i64 0) (.string ⟨#[]⟩) (.slice none 0 0) 24
  have hR1 := h.keep hB1
  obtain ⟨a0, a1, a2, g1, g2⟩ := hR1.cells
  have hT1 := hT.later (hB1.mono hT.big) (Nat.le_refl _)
  have HW := Lib.hid fun W (hW : RdAt W rb s p f) => word_calls rb s p f W hW hp hs
  have HR := Lib.hid hR1
  have hwl : (wordL (sfx s p)).length ≤ 65536 := by
    have := congrArg List.length (word_rest (sfx s p))
    rw [List.length_append, sfx_length] at this
    omega
  obtain ⟨W, hW⟩ : ∃ W, wordL (sfx s p) = W := ⟨_, rfl⟩
  rw [hW] at HW hwl ⊢
  have hne : ¬ w.heap.size = rb := by have := h.lt; omega
  have hrbw : rb < w.heap.size := h.lt
  have hpp : s.size - (s.size - p) = p := by omega
  clear hW
  unfold wordV
  by_cases c1 : W = [110, 105, 108]
  · subst c1
    rw [if_pos rfl]
    have hta := asVal
    go_enter Tryz.func44, Tryz.ntmps44
    go_wp2_with (first | (go_at_call 59; refine (HW.out _ HR.out).mono ?_; rintro e w2 ⟨rfl, q, hq, hR2, hE2, hB2⟩; have HR2 := Lib.hid hR2; have HE2 := Lib.hid hE2; have HK2 := Lib.hid (hB2.block _ hsz1 hne |>.trans hb1); have hB2' := (But.of hB1).trans (hB2.mono fun _ _ h => h); obtain ⟨w9, hw9, hB9, hsz9, hb9⟩ := box1 w2 (.int .i64 0) (.int .i64 0) (.string ⟨#[]⟩) (.slice none 0 0) 24; have HK9 := Lib.hid (blockB hB9 HK2.out); have HR9 := Lib.hid (HR2.out.keep hB9); have hB9' := hB2'.trans (But.of hB9); obtain ⟨k0, k1, k2, k3⟩ := block4 HK9.out; have z0 := free4 HK9.out 0; have z1 := free4 HK9.out 1; have z2 := free4 HK9.out 2; have z3 := free4 HK9.out 3; obtain ⟨m0, m1, m2, m3⟩ := block4 hb9; have y0 := free4 hb9 0; have y1 := free4 hb9 1; have y2 := free4 hb9 2; have y3 := free4 hb9 3; have hge9 : w.heap.size < w2.heap.size := (Array.getElem?_eq_some_iff.1 HK2.out).1; have hg1 : ¬ w2.heap.size = w.heap.size := Nat.ne_of_gt hge9; have hg2 : ¬ w.heap.size = w2.heap.size := Nat.ne_of_lt hge9; have hg3 : rb ≠ w2.heap.size := Nat.ne_of_lt (Nat.lt_trans hrbw hge9); clear hb9 hsz9; clear hR2 hE2))
    refine bodyPost_ret (v := .agg #[.int .i64 0, .int .i64 0, .string ⟨#[]⟩, .slice none 0 0]) (by simp [results, Tryz.results44, go_sem, k0, k1, k2, k3, hg1, hg2]) rfl ?_
    exact ⟨⟨_, rfl, rfl, q, hq, (((((((HR9.out.other hg3 _).other hg3 _).other hg3 _).other hg3 _).other (Ne.symm hne) _).other (Ne.symm hne) _).other (Ne.symm hne) _).other (Ne.symm hne) _, HE2.out⟩, (((((((hB9'.set (.inl (Nat.le_of_lt hge9)) _).set (.inl (Nat.le_of_lt hge9)) _).set (.inl (Nat.le_of_lt hge9)) _).set (.inl (Nat.le_of_lt hge9)) _).set (.inl (Nat.le_refl _)) _).set (.inl (Nat.le_refl _)) _).set (.inl (Nat.le_refl _)) _).set (.inl (Nat.le_refl _)) _⟩
  by_cases c2 : W = [116, 114, 117, 101]
  · subst c2
    rw [if_neg (by decide), if_pos rfl]
    have hta := asVal
    go_enter Tryz.func44, Tryz.ntmps44
    go_wp2_with (first | (go_at_call 59; refine (HW.out _ HR.out).mono ?_; rintro e w2 ⟨rfl, q, hq, hR2, hE2, hB2⟩; have HR2 := Lib.hid hR2; have HE2 := Lib.hid hE2; have HK2 := Lib.hid (hB2.block _ hsz1 hne |>.trans hb1); have hB2' := (But.of hB1).trans (hB2.mono fun _ _ h => h); obtain ⟨w9, hw9, hB9, hsz9, hb9⟩ := box1 w2 (.int .i64 0) (.int .i64 0) (.string ⟨#[]⟩) (.slice none 0 0) 24; have HK9 := Lib.hid (blockB hB9 HK2.out); have HR9 := Lib.hid (HR2.out.keep hB9); have hB9' := hB2'.trans (But.of hB9); obtain ⟨k0, k1, k2, k3⟩ := block4 HK9.out; have z0 := free4 HK9.out 0; have z1 := free4 HK9.out 1; have z2 := free4 HK9.out 2; have z3 := free4 HK9.out 3; obtain ⟨m0, m1, m2, m3⟩ := block4 hb9; have y0 := free4 hb9 0; have y1 := free4 hb9 1; have y2 := free4 hb9 2; have y3 := free4 hb9 3; have hge9 : w.heap.size < w2.heap.size := (Array.getElem?_eq_some_iff.1 HK2.out).1; have hg1 : ¬ w2.heap.size = w.heap.size := Nat.ne_of_gt hge9; have hg2 : ¬ w.heap.size = w2.heap.size := Nat.ne_of_lt hge9; have hg3 : rb ≠ w2.heap.size := Nat.ne_of_lt (Nat.lt_trans hrbw hge9); clear hb9 hsz9; clear hR2 hE2))
    refine bodyPost_ret (v := .agg #[.int .i64 1, .int .i64 1, .string ⟨#[]⟩, .slice none 0 0]) (by simp [results, Tryz.results44, go_sem, k0, k1, k2, k3, hg1, hg2]) rfl ?_
    exact ⟨⟨_, rfl, rfl, q, hq, (((((((HR9.out.other hg3 _).other hg3 _).other hg3 _).other hg3 _).other (Ne.symm hne) _).other (Ne.symm hne) _).other (Ne.symm hne) _).other (Ne.symm hne) _, HE2.out⟩, (((((((hB9'.set (.inl (Nat.le_of_lt hge9)) _).set (.inl (Nat.le_of_lt hge9)) _).set (.inl (Nat.le_of_lt hge9)) _).set (.inl (Nat.le_of_lt hge9)) _).set (.inl (Nat.le_refl _)) _).set (.inl (Nat.le_refl _)) _).set (.inl (Nat.le_refl _)) _).set (.inl (Nat.le_refl _)) _⟩
  by_cases c3 : W = [102, 97, 108, 115, 101]
  · subst c3
    rw [if_neg (by decide), if_neg (by decide), if_pos rfl]
    have hta := asVal
    go_enter Tryz.func44, Tryz.ntmps44
    go_wp2_with (first | (go_at_call 59; refine (HW.out _ HR.out).mono ?_; rintro e w2 ⟨rfl, q, hq, hR2, hE2, hB2⟩; have HR2 := Lib.hid hR2; have HE2 := Lib.hid hE2; have HK2 := Lib.hid (hB2.block _ hsz1 hne |>.trans hb1); have hB2' := (But.of hB1).trans (hB2.mono fun _ _ h => h); obtain ⟨w9, hw9, hB9, hsz9, hb9⟩ := box1 w2 (.int .i64 0) (.int .i64 0) (.string ⟨#[]⟩) (.slice none 0 0) 24; have HK9 := Lib.hid (blockB hB9 HK2.out); have HR9 := Lib.hid (HR2.out.keep hB9); have hB9' := hB2'.trans (But.of hB9); obtain ⟨k0, k1, k2, k3⟩ := block4 HK9.out; have z0 := free4 HK9.out 0; have z1 := free4 HK9.out 1; have z2 := free4 HK9.out 2; have z3 := free4 HK9.out 3; obtain ⟨m0, m1, m2, m3⟩ := block4 hb9; have y0 := free4 hb9 0; have y1 := free4 hb9 1; have y2 := free4 hb9 2; have y3 := free4 hb9 3; have hge9 : w.heap.size < w2.heap.size := (Array.getElem?_eq_some_iff.1 HK2.out).1; have hg1 : ¬ w2.heap.size = w.heap.size := Nat.ne_of_gt hge9; have hg2 : ¬ w.heap.size = w2.heap.size := Nat.ne_of_lt hge9; have hg3 : rb ≠ w2.heap.size := Nat.ne_of_lt (Nat.lt_trans hrbw hge9); clear hb9 hsz9; clear hR2 hE2))
    refine bodyPost_ret (v := .agg #[.int .i64 1, .int .i64 0, .string ⟨#[]⟩, .slice none 0 0]) (by simp [results, Tryz.results44, go_sem, k0, k1, k2, k3, hg1, hg2]) rfl ?_
    exact ⟨⟨_, rfl, rfl, q, hq, (((((((HR9.out.other hg3 _).other hg3 _).other hg3 _).other hg3 _).other (Ne.symm hne) _).other (Ne.symm hne) _).other (Ne.symm hne) _).other (Ne.symm hne) _, HE2.out⟩, (((((((hB9'.set (.inl (Nat.le_of_lt hge9)) _).set (.inl (Nat.le_of_lt hge9)) _).set (.inl (Nat.le_of_lt hge9)) _).set (.inl (Nat.le_of_lt hge9)) _).set (.inl (Nat.le_refl _)) _).set (.inl (Nat.le_refl _)) _).set (.inl (Nat.le_refl _)) _).set (.inl (Nat.le_refl _)) _⟩
  by_cases c4 : W = []
  · subst c4
    rw [if_neg (by decide), if_neg (by decide), if_neg (by decide), if_pos rfl]
    unfold Post
    dsimp only
    rw [hpp]
    have hta := asNot
    go_enter Tryz.func44, Tryz.ntmps44
    go_wp2_with (first | (go_at_call 59; refine (HW.out _ HR.out).mono ?_; rintro e w2 ⟨rfl, q, hq, hR2, hE2, hB2⟩; have HR2 := Lib.hid hR2; have HE2 := Lib.hid hE2; have HK2 := Lib.hid (hB2.block _ hsz1 hne |>.trans hb1); have hB2' := (But.of hB1).trans (hB2.mono fun _ _ h => h); obtain ⟨w9, hw9, hB9, hsz9, hb9⟩ := box1 w2 (.int .i64 0) (.int .i64 0) (.string ⟨#[]⟩) (.slice none 0 0) 24; have HK9 := Lib.hid (blockB hB9 HK2.out); have HR9 := Lib.hid (HR2.out.keep hB9); have hB9' := hB2'.trans (But.of hB9); obtain ⟨k0, k1, k2, k3⟩ := block4 HK9.out; have z0 := free4 HK9.out 0; have z1 := free4 HK9.out 1; have z2 := free4 HK9.out 2; have z3 := free4 HK9.out 3; obtain ⟨m0, m1, m2, m3⟩ := block4 hb9; have y0 := free4 hb9 0; have y1 := free4 hb9 1; have y2 := free4 hb9 2; have y3 := free4 hb9 3; have hge9 : w.heap.size < w2.heap.size := (Array.getElem?_eq_some_iff.1 HK2.out).1; have hg1 : ¬ w2.heap.size = w.heap.size := Nat.ne_of_gt hge9; have hg2 : ¬ w.heap.size = w2.heap.size := Nat.ne_of_lt hge9; have hg3 : rb ≠ w2.heap.size := Nat.ne_of_lt (Nat.lt_trans hrbw hge9); clear hb9 hsz9; clear hR2 hE2) | (go_at_call 25; refine (fail_calls _ _ _ _).mono ?_; rintro e w8 ⟨rfl, rfl⟩))
    exact ⟨rfl, rfl, (((hB9'.set (.inl (Nat.le_of_lt hge9)) _).set (.inl (Nat.le_of_lt hge9)) _).set (.inl (Nat.le_of_lt hge9)) _).set (.inl (Nat.le_of_lt hge9)) _⟩
  rw [if_neg c1, if_neg c2, if_neg c3, if_neg c4]
  have q1 := bytes_ne c1
  have q2 := bytes_ne c2
  have q3 := bytes_ne c3
  have q4 := bytes_ne c4
  have hn0 : (⟨W.toArray⟩ : ByteArray).size ≠ 0 := by
    intro e
    apply c4
    have : W.length = 0 := by simpa [ByteArray.size] using e
    exact List.length_eq_zero_iff.1 this
  have HN := Lib.hid fun W' (hT' : Tabs W') => number_calls (.pointer (some ⟨rb, 0, none⟩)) ⟨W.toArray⟩ p W' (by simpa [ByteArray.size] using hwl) hn0 hT'
  have hdt : (⟨W.toArray⟩ : ByteArray).data.toList = W := rfl
  rw [hdt] at HN
  have HT1 := Lib.hid hT1
  clear hwl hn0 hdt hT1 hT
  obtain ⟨WD, hWD⟩ : ∃ WD, (⟨W.toArray⟩ : ByteArray) = WD := ⟨_, rfl⟩
  rw [hWD] at HN HW q1 q2 q3 q4
  clear hWD c1 c2 c3 c4
  have hw1s : 8 ≤ w.heap.size := Nat.le_trans hrb (Nat.le_of_lt h.lt)
  cases hnum : numL W with
  | none =>
    rw [hnum] at HN
    unfold Post
    dsimp only
    rw [hpp]
    have hta := asNot
    go_enter Tryz.func44, Tryz.ntmps44
    go_wp2_with (first | (go_at_call 59; refine (HW.out _ HR.out).mono ?_; rintro e w2 ⟨rfl, q, hq, hR2, hE2, hB2⟩; have HR2 := Lib.hid hR2; have HE2 := Lib.hid hE2; have HK2 := Lib.hid (hB2.block _ hsz1 hne |>.trans hb1); have hB2' := (But.of hB1).trans (hB2.mono fun _ _ h => h); have HT2 := Lib.hid (HT1.out.later (hB2.below (n := 8) (by omega) (by rintro b rfl; exact hrb)) (Nat.le_refl _)); clear hR2 hE2) | (go_at_call 60; refine (HN.out _ HT2.out).mono ?_; rintro e w3 ⟨hns, hB3⟩; obtain rfl : e = .returned .nilIface := hns; have HR3 := Lib.hid (HR2.out.keep hB3); have HK3 := Lib.hid (blockB hB3 HK2.out); have hB3' := hB2'.trans (But.of hB3); obtain ⟨w9, hw9, hB9, hsz9, hb9⟩ := box1 w3 (.int .i64 0) (.int .i64 0) (.string ⟨#[]⟩) (.slice none 0 0) 24; have HK9 := Lib.hid (blockB hB9 HK3.out); have HR9 := Lib.hid (HR3.out.keep hB9); have hB9' := hB3'.trans (But.of hB9); obtain ⟨k0, k1, k2, k3⟩ := block4 HK9.out; have z0 := free4 HK9.out 0; have z1 := free4 HK9.out 1; have z2 := free4 HK9.out 2; have z3 := free4 HK9.out 3; obtain ⟨m0, m1, m2, m3⟩ := block4 hb9; have y0 := free4 hb9 0; have y1 := free4 hb9 1; have y2 := free4 hb9 2; have y3 := free4 hb9 3; have hge9 : w.heap.size < w3.heap.size := (Array.getElem?_eq_some_iff.1 HK3.out).1; have hg1 : ¬ w3.heap.size = w.heap.size := Nat.ne_of_gt hge9; have hg2 : ¬ w.heap.size = w3.heap.size := Nat.ne_of_lt hge9; have hg3 : rb ≠ w3.heap.size := Nat.ne_of_lt (Nat.lt_trans hrbw hge9); clear hb9 hsz9) | (go_at_call 25; refine (fail_calls _ _ _ _).mono ?_; rintro e w8 ⟨rfl, rfl⟩))
    exact ⟨rfl, rfl, (((hB9'.set (.inl (Nat.le_of_lt hge9)) _).set (.inl (Nat.le_of_lt hge9)) _).set (.inl (Nat.le_of_lt hge9)) _).set (.inl (Nat.le_of_lt hge9)) _⟩
  | some r =>
    rw [hnum] at HN
    cases r with
    | none =>
      unfold Post
      dsimp only
      rw [hpp]
      go_enter Tryz.func44, Tryz.ntmps44
      go_wp2_with (first | (go_at_call 59; refine (HW.out _ HR.out).mono ?_; rintro e w2 ⟨rfl, q, hq, hR2, hE2, hB2⟩; have HR2 := Lib.hid hR2; have HE2 := Lib.hid hE2; have HK2 := Lib.hid (hB2.block _ hsz1 hne |>.trans hb1); have hB2' := (But.of hB1).trans (hB2.mono fun _ _ h => h); have HT2 := Lib.hid (HT1.out.later (hB2.below (n := 8) (by omega) (by rintro b rfl; exact hrb)) (Nat.le_refl _)); clear hR2 hE2) | (go_at_call 60; refine (HN.out _ HT2.out).mono ?_; rintro e w3 ⟨hns, hB3⟩; have he : e = .panicked [{ v := .iface 73 (.agg #[.int .i64 23, .int .i64 p]), recovered := false }] := hns; subst he; have HR3 := Lib.hid (HR2.out.keep hB3); have HK3 := Lib.hid (blockB hB3 HK2.out); have hB3' := hB2'.trans (But.of hB3); skip))
      exact ⟨rfl, rfl, hB3'⟩
    | some n =>
      have hta := asVal
      go_enter Tryz.func44, Tryz.ntmps44
      go_wp2_with (first | (go_at_call 59; refine (HW.out _ HR.out).mono ?_; rintro e w2 ⟨rfl, q, hq, hR2, hE2, hB2⟩; have HR2 := Lib.hid hR2; have HE2 := Lib.hid hE2; have HK2 := Lib.hid (hB2.block _ hsz1 hne |>.trans hb1); have hB2' := (But.of hB1).trans (hB2.mono fun _ _ h => h); have HT2 := Lib.hid (HT1.out.later (hB2.below (n := 8) (by omega) (by rintro b rfl; exact hrb)) (Nat.le_refl _)); clear hR2 hE2) | (go_at_call 60; refine (HN.out _ HT2.out).mono ?_; rintro e w3 ⟨hns, hB3⟩; have he : e = .returned (.iface 24 (.agg #[.int .i64 2, .int .i64 n, .string ⟨#[]⟩, .slice none 0 0])) := hns; subst he; have HR3 := Lib.hid (HR2.out.keep hB3); have HK3 := Lib.hid (blockB hB3 HK2.out); have hB3' := hB2'.trans (But.of hB3); obtain ⟨w9, hw9, hB9, hsz9, hb9⟩ := box1 w3 (.int .i64 0) (.int .i64 0) (.string ⟨#[]⟩) (.slice none 0 0) 24; have HK9 := Lib.hid (blockB hB9 HK3.out); have HR9 := Lib.hid (HR3.out.keep hB9); have hB9' := hB3'.trans (But.of hB9); obtain ⟨k0, k1, k2, k3⟩ := block4 HK9.out; have z0 := free4 HK9.out 0; have z1 := free4 HK9.out 1; have z2 := free4 HK9.out 2; have z3 := free4 HK9.out 3; obtain ⟨m0, m1, m2, m3⟩ := block4 hb9; have y0 := free4 hb9 0; have y1 := free4 hb9 1; have y2 := free4 hb9 2; have y3 := free4 hb9 3; have hge9 : w.heap.size < w3.heap.size := (Array.getElem?_eq_some_iff.1 HK3.out).1; have hg1 : ¬ w3.heap.size = w.heap.size := Nat.ne_of_gt hge9; have hg2 : ¬ w.heap.size = w3.heap.size := Nat.ne_of_lt hge9; have hg3 : rb ≠ w3.heap.size := Nat.ne_of_lt (Nat.lt_trans hrbw hge9); clear hb9 hsz9))
      refine bodyPost_ret (v := .agg #[.int .i64 2, .int .i64 n, .string ⟨#[]⟩, .slice none 0 0]) (by simp [results, Tryz.results44, go_sem, k0, k1, k2, k3, hg1, hg2]) rfl ?_
      exact ⟨⟨_, rfl, rfl, q, hq, (((((((HR9.out.other hg3 _).other hg3 _).other hg3 _).other hg3 _).other (Ne.symm hne) _).other (Ne.symm hne) _).other (Ne.symm hne) _).other (Ne.symm hne) _, HE2.out⟩, (((((((hB9'.set (.inl (Nat.le_of_lt hge9)) _).set (.inl (Nat.le_of_lt hge9)) _).set (.inl (Nat.le_of_lt hge9)) _).set (.inl (Nat.le_of_lt hge9)) _).set (.inl (Nat.le_refl _)) _).set (.inl (Nat.le_refl _)) _).set (.inl (Nat.le_refl _)) _).set (.inl (Nat.le_refl _)) _⟩
end Go.Proofs.YtoiipdknamgcmaaGreatDoor

/- One digit of 0 to f. -/
set_option linter.unusedVariables false
set_option linter.unusedSimpArgs false
namespace Go.Proofs.YtoiipdknamgcmaaGreatDoor
open Go.RowKit Go.Shelf
attribute [local go_sem] lt_succ_of

set_option maxRecDepth 100000 in
theorem low_all : ∀ i : Fin 256, (bits .or .u8 (i.val : Int) 32 = ((i.val ||| 32 : Nat) : Int)) ∧ (i.val ||| 32) < 256 ∧ hexD (UInt8.ofNat i.val) = (if 48 ≤ i.val ∧ i.val ≤ 57 then some (i.val - 48) else if 97 ≤ (i.val ||| 32) ∧ (i.val ||| 32) ≤ 102 then some ((i.val ||| 32) - 87) else none) := by decide
theorem low_of (c : UInt8) : ∃ ℓ : Nat, bits .or .u8 (c.toNat : Int) 32 = (ℓ : Int) ∧ ℓ < 256 ∧ hexD c = (if 48 ≤ c.toNat ∧ c.toNat ≤ 57 then some (c.toNat - 48) else if 97 ≤ ℓ ∧ ℓ ≤ 102 then some (ℓ - 87) else none) := by
  obtain ⟨h1, h2, h3⟩ := low_all ⟨c.toNat, UInt8.toNat_lt c⟩
  simp only [UInt8.ofNat_toNat] at h3
  exact ⟨_, h1, h2, h3⟩
set_option maxRecDepth 100000 in
set_option maxHeartbeats 4000000 in
theorem hexi_calls (c : UInt8) (w : World) :
    Calls Tryz.prog 102 #[.string ⟨#[c]⟩, .int .i64 16, .int .i64 8] w fun e w' => e = .returned (match hexD c with | some d => .tuple #[.int .u64 d, .nilIface] | none => .tuple #[.int .u64 0, .iface 145 (.int .i64 2)]) ∧ Below w.heap.size w w' := by
  obtain ⟨ℓ, hl, hl2, hh⟩ := low_of c
  have HL := Lib.hid fun W => Tryz.internal_strconv_lower (c.toNat : Int) W
  rw [hl] at HL
  have hc := UInt8.toNat_lt c
  rw [hh]
  clear hh hl
  obtain ⟨n, hn⟩ : ∃ n, c.toNat = n := ⟨_, rfl⟩
  obtain ⟨w1, hw1⟩ : ∃ w1, Lib.bytesWorld w 5 ⟨#[c]⟩ = w1 := ⟨_, rfl⟩
  have hB1 : Below w.heap.size w w1 := by rw [← hw1]; exact ⟨rfl, rfl, rfl, by rw [Lib.bytesWorld_size]; omega, fun k hk => Lib.bytesWorld_at_old w _ _ k (by omega)⟩
  have c0 : w1.cell? ⟨w.heap.size, 0, none⟩ = some (.int .u8 n) := by
    rw [← hw1, Lib.bytesWorld_cell w _ ⟨#[c]⟩ 0 (show 0 < 1 from Nat.zero_lt_one), ← hn]
    rfl
  have hsz : (⟨#[c]⟩ : ByteArray).size = 1 := rfl
  have hcv := Lib.run_convert_string_bytes w 9 41 5 ⟨#[c]⟩ Tryz.underlying9 Tryz.underlying41 Tryz.underlying5
  rw [hw1, hsz] at hcv
  rw [hn] at HL hc ⊢
  clear hw1 hn
  obtain ⟨E, hE⟩ : ∃ E, (if 48 ≤ n ∧ n ≤ 57 then some (n - 48) else if 97 ≤ ℓ ∧ ℓ ≤ 102 then some (ℓ - 87) else none) = E := ⟨_, rfl⟩
  rw [hE]
  have HE := Lib.hid hE
  clear hE
  go_enter Tryz.func102, Tryz.ntmps102
  go_wp2_with fail
  go_loopw [101, 12, 13] (fun vi vu vn wr => w1 = wr ∧ vu = .bool false ∧ ((vi = .int .i64 0 ∧ vn = .int .u64 0) ∨ ∃ d : Nat, vi = .int .i64 1 ∧ vn = .int .u64 d ∧ Hid (E = some d))) (fun vi _ _ _ => 1 - (intOf vi).toNat)
  case atStart => exact ⟨rfl, rfl, .inl ⟨rfl, rfl⟩⟩
  case round =>
    obtain ⟨rfl, rfl, hrel⟩ := hrel
    rcases hrel with ⟨rfl, rfl⟩ | ⟨d, rfl, rfl, hd⟩
    · by_cases c1 : 48 ≤ n ∧ n ≤ 57
      · have HE2 : Hid (E = some (n - 48)) := Lib.hid (by rw [← HE.out, if_pos c1])
        have d1 : decide ((48 : Int) ≤ (n : Int)) = true := decide_eq_true (by omega)
        have d2 : decide ((n : Int) ≤ 57) = true := decide_eq_true (by omega)
        have d3 : ((n : Int) == 95) = false := by rw [beq_eq_false_iff_ne]; omega
        obtain ⟨h48, h57⟩ := c1
        go_wp2_with fail
        exact ⟨⟨trivial, rfl, .inr ⟨n - 48, rfl, (by rw [Int.natCast_sub h48]; rfl), HE2⟩⟩, by decide⟩
      have HE1 : Hid (E = if 97 ≤ ℓ ∧ ℓ ≤ 102 then some (ℓ - 87) else none) := Lib.hid (by rw [← HE.out, if_neg c1])
      have hno : n < 48 ∨ (48 ≤ n ∧ 57 < n) := by omega
      clear c1 HE
      cases hz : ((n : Int) == 95)
      · rcases hno with hno | ⟨hno, hno2⟩
        · skip
          have d1 : decide ((48 : Int) ≤ (n : Int)) = false := decide_eq_false (by omega)
          clear hno
          by_cases l1 : ℓ < 97
          · have e1 : decide ((97 : Int) ≤ (ℓ : Int)) = false := decide_eq_false (by omega)
            obtain rfl : E = none := by rw [HE1.out, if_neg (by omega)]
            clear l1
            go_wp2_with (go_at_call 115; refine (HL.out _).mono ?_; rintro e w2 ⟨rfl, rfl⟩)
            go_ret2
            exact ⟨rfl, hB1⟩
          have e1 : decide ((97 : Int) ≤ (ℓ : Int)) = true := decide_eq_true (by omega)
          by_cases l2 : 122 < ℓ
          · have e2 : decide ((ℓ : Int) ≤ 122) = false := decide_eq_false (by omega)
            obtain rfl : E = none := by rw [HE1.out, if_neg (by omega)]
            clear l1 l2
            go_wp2_with (go_at_call 115; refine (HL.out _).mono ?_; rintro e w2 ⟨rfl, rfl⟩)
            go_ret2
            exact ⟨rfl, hB1⟩
          have e2 : decide ((ℓ : Int) ≤ 122) = true := decide_eq_true (by omega)
          obtain ⟨m, rfl⟩ : ∃ m, ℓ = m + 87 := ⟨ℓ - 87, by omega⟩
          by_cases l3 : 15 < m
          · obtain rfl : E = none := by rw [HE1.out, if_neg (by omega)]
            go_wp2_with (go_at_call 115; refine (HL.out _).mono ?_; rintro e w2 ⟨rfl, rfl⟩)
            go_ret2
            exact ⟨rfl, hB1⟩
          · obtain rfl : E = some m := by rw [HE1.out, if_pos (by omega), show m + 87 - 87 = m by omega]
            go_wp2_with (go_at_call 115; refine (HL.out _).mono ?_; rintro e w2 ⟨rfl, rfl⟩)
            exact ⟨⟨trivial, rfl, .inr ⟨m, rfl, (by rw [show ((m : Int) + 87 - 97 + 10) = (m : Int) by omega]), Lib.hid rfl⟩⟩, by decide⟩
        · skip
          have d1 : decide ((48 : Int) ≤ (n : Int)) = true := decide_eq_true (by omega)
          have d2 : decide ((n : Int) ≤ 57) = false := decide_eq_false (by omega)
          clear hno hno2
          by_cases l1 : ℓ < 97
          · have e1 : decide ((97 : Int) ≤ (ℓ : Int)) = false := decide_eq_false (by omega)
            obtain rfl : E = none := by rw [HE1.out, if_neg (by omega)]
            clear l1
            go_wp2_with (go_at_call 115; refine (HL.out _).mono ?_; rintro e w2 ⟨rfl, rfl⟩)
            go_ret2
            exact ⟨rfl, hB1⟩
          have e1 : decide ((97 : Int) ≤ (ℓ : Int)) = true := decide_eq_true (by omega)
          by_cases l2 : 122 < ℓ
          · have e2 : decide ((ℓ : Int) ≤ 122) = false := decide_eq_false (by omega)
            obtain rfl : E = none := by rw [HE1.out, if_neg (by omega)]
            clear l1 l2
            go_wp2_with (go_at_call 115; refine (HL.out _).mono ?_; rintro e w2 ⟨rfl, rfl⟩)
            go_ret2
            exact ⟨rfl, hB1⟩
          have e2 : decide ((ℓ : Int) ≤ 122) = true := decide_eq_true (by omega)
          obtain ⟨m, rfl⟩ : ∃ m, ℓ = m + 87 := ⟨ℓ - 87, by omega⟩
          by_cases l3 : 15 < m
          · obtain rfl : E = none := by rw [HE1.out, if_neg (by omega)]
            go_wp2_with (go_at_call 115; refine (HL.out _).mono ?_; rintro e w2 ⟨rfl, rfl⟩)
            go_ret2
            exact ⟨rfl, hB1⟩
          · obtain rfl : E = some m := by rw [HE1.out, if_pos (by omega), show m + 87 - 87 = m by omega]
            go_wp2_with (go_at_call 115; refine (HL.out _).mono ?_; rintro e w2 ⟨rfl, rfl⟩)
            exact ⟨⟨trivial, rfl, .inr ⟨m, rfl, (by rw [show ((m : Int) + 87 - 97 + 10) = (m : Int) by omega]), Lib.hid rfl⟩⟩, by decide⟩
      · rcases hno with hno | ⟨hno, hno2⟩
        · skip
          have d1 : decide ((48 : Int) ≤ (n : Int)) = false := decide_eq_false (by omega)
          clear hno
          by_cases l1 : ℓ < 97
          · have e1 : decide ((97 : Int) ≤ (ℓ : Int)) = false := decide_eq_false (by omega)
            obtain rfl : E = none := by rw [HE1.out, if_neg (by omega)]
            clear l1
            go_wp2_with (go_at_call 115; refine (HL.out _).mono ?_; rintro e w2 ⟨rfl, rfl⟩)
            go_ret2
            exact ⟨rfl, hB1⟩
          have e1 : decide ((97 : Int) ≤ (ℓ : Int)) = true := decide_eq_true (by omega)
          by_cases l2 : 122 < ℓ
          · have e2 : decide ((ℓ : Int) ≤ 122) = false := decide_eq_false (by omega)
            obtain rfl : E = none := by rw [HE1.out, if_neg (by omega)]
            clear l1 l2
            go_wp2_with (go_at_call 115; refine (HL.out _).mono ?_; rintro e w2 ⟨rfl, rfl⟩)
            go_ret2
            exact ⟨rfl, hB1⟩
          have e2 : decide ((ℓ : Int) ≤ 122) = true := decide_eq_true (by omega)
          obtain ⟨m, rfl⟩ : ∃ m, ℓ = m + 87 := ⟨ℓ - 87, by omega⟩
          by_cases l3 : 15 < m
          · obtain rfl : E = none := by rw [HE1.out, if_neg (by omega)]
            go_wp2_with (go_at_call 115; refine (HL.out _).mono ?_; rintro e w2 ⟨rfl, rfl⟩)
            go_ret2
            exact ⟨rfl, hB1⟩
          · obtain rfl : E = some m := by rw [HE1.out, if_pos (by omega), show m + 87 - 87 = m by omega]
            go_wp2_with (go_at_call 115; refine (HL.out _).mono ?_; rintro e w2 ⟨rfl, rfl⟩)
            exact ⟨⟨trivial, rfl, .inr ⟨m, rfl, (by rw [show ((m : Int) + 87 - 97 + 10) = (m : Int) by omega]), Lib.hid rfl⟩⟩, by decide⟩
        · skip
          have d1 : decide ((48 : Int) ≤ (n : Int)) = true := decide_eq_true (by omega)
          have d2 : decide ((n : Int) ≤ 57) = false := decide_eq_false (by omega)
          clear hno hno2
          by_cases l1 : ℓ < 97
          · have e1 : decide ((97 : Int) ≤ (ℓ : Int)) = false := decide_eq_false (by omega)
            obtain rfl : E = none := by rw [HE1.out, if_neg (by omega)]
            clear l1
            go_wp2_with (go_at_call 115; refine (HL.out _).mono ?_; rintro e w2 ⟨rfl, rfl⟩)
            go_ret2
            exact ⟨rfl, hB1⟩
          have e1 : decide ((97 : Int) ≤ (ℓ : Int)) = true := decide_eq_true (by omega)
          by_cases l2 : 122 < ℓ
          · have e2 : decide ((ℓ : Int) ≤ 122) = false := decide_eq_false (by omega)
            obtain rfl : E = none := by rw [HE1.out, if_neg (by omega)]
            clear l1 l2
            go_wp2_with (go_at_call 115; refine (HL.out _).mono ?_; rintro e w2 ⟨rfl, rfl⟩)
            go_ret2
            exact ⟨rfl, hB1⟩
          have e2 : decide ((ℓ : Int) ≤ 122) = true := decide_eq_true (by omega)
          obtain ⟨m, rfl⟩ : ∃ m, ℓ = m + 87 := ⟨ℓ - 87, by omega⟩
          by_cases l3 : 15 < m
          · obtain rfl : E = none := by rw [HE1.out, if_neg (by omega)]
            go_wp2_with (go_at_call 115; refine (HL.out _).mono ?_; rintro e w2 ⟨rfl, rfl⟩)
            go_ret2
            exact ⟨rfl, hB1⟩
          · obtain rfl : E = some m := by rw [HE1.out, if_pos (by omega), show m + 87 - 87 = m by omega]
            go_wp2_with (go_at_call 115; refine (HL.out _).mono ?_; rintro e w2 ⟨rfl, rfl⟩)
            exact ⟨⟨trivial, rfl, .inr ⟨m, rfl, (by rw [show ((m : Int) + 87 - 97 + 10) = (m : Int) by omega]), Lib.hid rfl⟩⟩, by decide⟩
    · obtain rfl := hd.out
      go_wp2_with fail
      go_ret2
      exact ⟨rfl, hB1⟩
theorem VarIs.cell {n : String} {g : Nat} (hg : Tryz.prog.globalNamed n = some g) {w : World} (h : VarIs n w) : ∃ tp p, w.cell? ⟨g, 0, none⟩ = some (.iface tp p) := by
  obtain ⟨tp, p, h⟩ := h
  refine ⟨tp, p, ?_⟩
  unfold World.var? at h
  rw [hg] at h
  simp only [Option.bind_some] at h
  unfold World.cell?
  cases hh : w.heap[g]? with
  | none => rw [hh] at h; cases h
  | some o =>
    rw [hh] at h
    cases o <;> simp_all
set_option maxRecDepth 100000 in
set_option maxHeartbeats 4000000 in
theorem hexu_calls (c : UInt8) (w : World) (hT : Tabs w) :
    Calls Tryz.prog 74 #[.string ⟨#[c]⟩, .int .i64 16, .int .i64 8] w fun e w' => (match hexD c with | some d => e = .returned (.tuple #[.int .u64 d, .nilIface]) | none => ∃ N, e = .returned (.tuple #[.int .u64 0, .iface 147 (.pointer (some ⟨N, 0, none⟩))])) ∧ Below w.heap.size w w' := by
  have HC := Lib.hid (hexi_calls c w)
  cases hd : hexD c with
  | some d =>
    rw [hd] at HC
    go_enter Tryz.func74, Tryz.ntmps74
    go_wp2_with (go_at_call 102; refine HC.out.mono ?_; rintro e w2 ⟨rfl, hb2⟩)
    go_ret2
    exact ⟨rfl, hb2⟩
  | none =>
    rw [hd] at HC
    have HV := Lib.hid fun W (h : Tabs W) => VarIs.cell syn_named h.syn
    have HT := Lib.hid fun W (h : Below w.heap.size w W) => hT.later (h.mono hT.big) (Nat.le_refl _)
    have hsz : (⟨#[c]⟩ : ByteArray).size ≤ 281474976710656 := (show 1 ≤ _ by decide)
    go_enter Tryz.func74, Tryz.ntmps74
    go_wp2_with (first
      | (go_at_call 102; refine HC.out.mono ?_; rintro e w2 ⟨rfl, hb2⟩)
      | (go_at_call 103; obtain ⟨tp, pp, hcell⟩ := HV.out _ (HT.out _ hb2); refine (Tryz.strconv_toError_syntax _ _ _ _ _ _ hsz hcell (.inr ⟨tp, pp, rfl⟩)).mono ?_; rintro e w3 ⟨N, rfl, _, _, hb3⟩; have hb4 := below_then hb2 hb2.size hb3; clear hcell))
    go_ret2
    exact ⟨⟨_, rfl⟩, hb4⟩
end Go.Proofs.YtoiipdknamgcmaaGreatDoor
