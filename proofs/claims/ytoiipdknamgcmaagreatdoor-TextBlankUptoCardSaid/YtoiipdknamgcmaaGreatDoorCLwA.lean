/- Reading, as the laws ask of it. The law TextBack. The laws TextOnce and TextBlank. The law TextBlank. -/
import Derived.Test.YtoiipdknamgcmaaGreatDoorCStO
import Derived.Test.YtoiipdknamgcmaaGreatDoorCPlA
import Derived.Test.YtoiipdknamgcmaaGreatDoorCTxN
/- Reading, as the laws ask of it. -/
set_option linter.unusedVariables false
set_option linter.unusedSimpArgs false
namespace Go.Proofs.YtoiipdknamgcmaaGreatDoor
open Go.RowKit Go.Shelf
attribute [local go_sem] lt_succ_of

mutual
theorem vc_nums {w : World} {S : Nat → Prop} : ∀ (x : V) (c : List Value), VC w S x c → numAll x
  | .mk k n t l, c, h => by
    obtain ⟨hb, A, cap, _, _, hl⟩ := h
    refine ⟨⟨hb.n0, hb.n1⟩, ?_⟩
    · rcases hl with rfl | ⟨ad, _, hl⟩
      · trivial
      · exact lc_nums l ad 0 hl
theorem lc_nums {w : World} {S : Nat → Prop} : ∀ (l : List V) (ad : Addr) (n : Nat), LC w S l ad n → numAlls l
  | [], _, _, _ => trivial
  | x :: l, ad, n, h => by
    obtain ⟨_, ⟨c, hc, _⟩, hl⟩ := h
    exact ⟨vc_nums x c hc, lc_nums l ad (n + 4) hl⟩
end
theorem isV_nums {w : World} {S : Nat → Prop} {x : V} {v : Value} (h : IsV w S x v) : numAll x := by
  obtain ⟨c, hc, _⟩ := h
  exact vc_nums x c hc
/-- What text.Read says of a text. -/
def ReadT (s : ByteArray) (x : V) (er : Int) (at' : Nat) : Prop := ReadIs true (fuelB s.data.toList) s x er at'
theorem readT (s : ByteArray) (w : World) (hT : Tabs w) :
    Calls Tryz.prog 12 #[.string s] w fun e w' => ∃ v x er, ∃ at' : Nat, e = .returned (.tuple #[v, .int .i64 er, .int .i64 at']) ∧ IsV w' (fun b => w.heap.size ≤ b) x v ∧ ReadT s x er at' ∧ Below w.heap.size w w' :=
  read_calls true (fuelB s.data.toList) (all_at true set_calls (fun k h => pairs_some k h) _) s w hT (fun _ _ => wholeF_in _)
theorem utf_val {s : ByteArray} (h : utfFrom s 0 = true) : Val s.data.toList := by
  have := val_of_utf s _ 0 (Nat.lt_succ_self _) h
  simpa using this
theorem zero_right : rightB V.zero = true ∧ numAll V.zero := by
  refine ⟨?_, ⟨⟨by decide, by decide⟩, trivial⟩⟩
  unfold rightB
  rw [decide_eq_true_iff]
  exact ⟨by decide, by decide, by decide⟩
theorem readT_place {s : ByteArray} {x : V} {er : Int} {at' : Nat} (h : ReadT s x er at') : at' ≤ s.size := by
  unfold ReadT ReadIs at h
  split at h
  · obtain ⟨_, _, rfl⟩ := h; exact Nat.zero_le _
  split at h
  · split at h
    · exact h.elim
    · obtain ⟨_, _, rfl⟩ := h; exact Nat.sub_le _ _
    · obtain ⟨_, _, rfl⟩ := h; exact Nat.zero_le _
  · exact h.2.2
/-- What was read without a fault. -/
theorem readT_ok {s : ByteArray} {x : V} {er : Int} {at' : Nat} (h : ReadT s x er at') (he : er = 0) : s.size ≤ 65536 ∧ utfFrom s 0 = true ∧ wholeF true (fuelB s.data.toList) s.data.toList = .ok x := by
  unfold ReadT ReadIs at h
  split at h
  · obtain ⟨_, h, _⟩ := h; omega
  rename_i h1
  split at h
  · rename_i h2
    refine ⟨by omega, h2, ?_⟩
    split at h
    · exact h.elim
    · rename_i e k hw
      obtain ⟨_, h3, _⟩ := h
      exact absurd (h3.symm.trans he) (whole_nz true _ _ e k hw)
    · rename_i v hw
      obtain ⟨rfl, _, _⟩ := h
      exact hw
  · obtain ⟨_, h, _⟩ := h; omega
theorem readT_right {s : ByteArray} {x : V} {er : Int} {at' : Nat} (h : ReadT s x er at') (he : er = 0) : rightB x = true ∧ numAll x := by
  obtain ⟨_, h1, h2⟩ := readT_ok h he
  exact whole_right (utf_val h1) h2
/-- A printed form is read as the value. -/
theorem readT_back {x y : V} {er : Int} {at' : Nat} (hr : rightB x = true) (hn : numAll x) (hs : (printS x).size ≤ 65536) (h : ReadT (printS x) y er at') : er = 0 ∧ y = x := by
  have hp : (printS x).data.toList = prB x := by unfold printS; rw [if_pos hr]
  have hu : utfFrom (printS x) 0 = true := by
    have h1 := (val_utf (prB x)).1 (prB_val x (right_all hr))
    have h2 : printS x = ⟨(prB x).toArray⟩ := by unfold printS; rw [if_pos hr]
    rw [h2]
    exact h1
  unfold ReadT ReadIs at h
  rw [if_neg (by omega), if_pos hu, hp, whole_back x hr hn _ (wholeF_in _)] at h
  exact ⟨h.2.1, h.1⟩
/-- Blanks, remarks and a form that is left out, ahead of a text and behind it. -/
theorem readT_blank {s t : ByteArray} {x y : V} {er er' : Int} {at' at'' : Nat} (h : ReadT s x er at') (he : er = 0) (hs : s.size ≤ 60000) (ht : t.data.toList = aheadB ++ s.data.toList ++ zB) (k : ReadT t y er' at'') : (er' = 0 ∧ y = x) ∨ er' = 28 := by
  obtain ⟨h1, h2, h3⟩ := readT_ok h he
  have hv := blank_val (utf_val h2)
  have hsz : t.size ≤ 65536 := by
    have e1 : t.data.toList.length = t.size := rfl
    have e2 : s.data.toList.length = s.size := rfl
    rw [← e1, ht, List.length_append, List.length_append, e2]
    show 15 + s.size + 2 ≤ 65536
    omega
  have hu : utfFrom t 0 = true := by
    refine utf_of_val hv t 0 ?_
    rw [List.drop_zero, ht]
  unfold ReadT ReadIs at k
  rw [if_neg (by omega), if_pos hu, ht] at k
  rcases whole_blank _ (fuelB (aheadB ++ s.data.toList ++ zB)) _ _ h3 (wholeF_in _) with h4 | ⟨j, h4⟩
  · rw [h4] at k
    exact .inl ⟨k.2.1, k.1⟩
  · rw [h4] at k
    exact .inr k.2.1
end Go.Proofs.YtoiipdknamgcmaaGreatDoor

/- The law TextBack. -/
set_option linter.unusedVariables false
set_option linter.unusedSimpArgs false
namespace Go.Proofs.YtoiipdknamgcmaaGreatDoor
open Go.RowKit Go.Shelf
attribute [local go_sem] lt_succ_of

theorem printS_bad {x : V} (h : rightB x = false) : printS x = ⟨#[]⟩ ∧ printE x = 3 := by
  unfold printS printE
  rw [if_neg (by rw [h]; decide), if_neg (by rw [h]; decide)]
  exact ⟨rfl, rfl⟩
theorem printE_ok {x : V} (h : rightB x = true) : printE x = 0 := by unfold printE; rw [if_pos h]
set_option maxRecDepth 100000 in
set_option maxHeartbeats 8000000 in
theorem textback_calls (x : V) (vx : Value) (w : World) (S : Nat → Prop) (hX : IsV w S x vx) (hT : Tabs w) :
    Calls Tryz.prog 4 #[vx] w fun e w' => e = .returned (.bool true) ∧ Below w.heap.size w w' := by
  have HN := Lib.hid (isV_nums hX)
  obtain ⟨hbx, A, ca, rfl, hca, hA⟩ := hX.eq
  obtain ⟨w1, hw1, hB1, hsz, hb0⟩ := box4' w 24 (.int .i64 x.kind) (.int .i64 x.num) (.string x.text) (.slice A x.items.length ca)
  obtain ⟨a0, a1, a2, a3⟩ := block4 hb0
  have h8 := hT.big
  have HX1 := Lib.hid (hX.below hB1)
  have HT2 := Lib.hid fun (w2 : World) (hb : Below w.heap.size w w2) => hT.later hb h8
  have HP := Lib.hid (print_calls x _ S w1 HX1.out (HT2.out w1 hB1).utf (HT2.out w1 hB1).pow (by omega))
  have HS := Lib.hid fun (W : World) (hb : Below w1.heap.size w1 W) => speaks_calls W (HT2.out W (below_then hB1 hB1.size hb))
  have HRd := Lib.hid fun (W : World) (hb : Below w1.heap.size w1 W) => readT (printS x) W (HT2.out W (below_then hB1 hB1.size hb))
  clear hX hA hT hb0
  cases hr : rightB x with
  | false =>
    obtain ⟨e1, e2⟩ := printS_bad hr
    rw [e1, e2] at HP
    clear hr e1 e2 HRd
    go_enter Tryz.func4, Tryz.ntmps4
    go_wp2_with (first
      | (go_at_call 7; refine HP.out.mono ?_; rintro e w2 ⟨rfl, hb2⟩)
      | (go_at_call 11; refine (HS.out _ hb2).mono ?_; rintro e w9 ⟨rfl, hb9⟩; have hb10 := below_then hB1 hB1.size (below_then hb2 hb2.size hb9)))
    go_ret
    exact ⟨rfl, hb10⟩
  | true =>
    rw [printE_ok hr] at HP
    have HBK := Lib.hid fun (y : V) (er : Int) (at' : Nat) (hs : (printS x).size ≤ 65536) (h : ReadT (printS x) y er at') => readT_back hr HN.out hs h
    clear hr
    generalize printS x = P at HP HRd HBK
    by_cases hlen : 65536 < P.size
    · have hl1 : (65536 : Int) < (P.size : Int) := by omega
      have hl2 : decide ((P.size : Int) > 65536) = true := decide_eq_true hl1
      clear hlen HRd HBK
      go_enter Tryz.func4, Tryz.ntmps4
      go_wp2_with (first
        | (go_at_call 7; refine HP.out.mono ?_; rintro e w2 ⟨rfl, hb2⟩)
        | (go_at_call 11; refine (HS.out _ hb2).mono ?_; rintro e w9 ⟨rfl, hb9⟩; have hb10 := below_then hB1 hB1.size (below_then hb2 hb2.size hb9)))
      go_ret
      exact ⟨rfl, hb10⟩
    · have hl1 : ¬ (65536 : Int) < (P.size : Int) := by omega
      have hl2 : decide ((P.size : Int) > 65536) = false := decide_eq_false hl1
      have HLN := Lib.hid (show P.size ≤ 65536 by omega)
      clear hlen
      go_enter Tryz.func4, Tryz.ntmps4
      go_wp2_with (first
        | (go_at_call 7; refine HP.out.mono ?_; rintro e w2 ⟨rfl, hb2⟩)
        | (go_at_call 12; refine (HRd.out _ hb2).mono ?_; rintro e w3 ⟨v3, y, er, at3, rfl, hv3, hr3, hb3⟩; obtain ⟨he, hy⟩ := HBK.out y er at3 HLN.out hr3; subst he hy; have HV3 := Lib.hid hv3; obtain ⟨hbv, A3, c3, rfl, hc3, hA3⟩ := hv3.eq; clear hv3 hr3 hA3 HBK HRd; have hb4 := below_then hb2 hb2.size hb3; have hne : ¬ w3.heap.size = w.heap.size := (by have := hb4.size; omega); have b0 := cellB hb4 a0; have b1 := cellB hb4 a1; have b2 := cellB hb4 a2; have b3 := cellB hb4 a3; clear a0 a1 a2 a3; obtain ⟨wx, hwx, hBx, hsx, hbx2⟩ := box4' w3 24 (.int .i64 0) (.int .i64 0) (.string ⟨#[]⟩) (.slice none 0 0); obtain ⟨c0, c1, c2, c3'⟩ := block4 hbx2; have fz := free4 hbx2; have d0 := cellB hBx b0; have d1 := cellB hBx b1; have d2 := cellB hBx b2; have d3 := cellB hBx b3; clear b0 b1 b2 b3)
        | (go_at_call 13; have hby := four_stored hBx (.int .i64 y.kind) (.int .i64 y.num) (.string y.text) (.slice A3 y.items.length c3); refine (same_calls y y _ _ _ _ _ ((HX1.out.below hb4).below hby) (HV3.out.below hby)).mono ?_; rintro e w5 ⟨rfl, hb5⟩; rw [eqV_self]; have hb6 := below_then hb4 hb4.size (below_then hby hby.size hb5))
        | (go_at_call 11; refine (HS.out _ hb6).mono ?_; rintro e w9 ⟨rfl, hb9⟩; have hb10 := below_then hB1 hB1.size (below_then hb6 hb6.size hb9)))
      go_ret
      exact ⟨rfl, hb10⟩
end Go.Proofs.YtoiipdknamgcmaaGreatDoor

/- The laws TextOnce and TextBlank. -/
set_option linter.unusedVariables false
set_option linter.unusedSimpArgs false
namespace Go.Proofs.YtoiipdknamgcmaaGreatDoor
open Go.RowKit Go.Shelf
attribute [local go_sem] lt_succ_of

/-- What text.Read says of a text, but for the place. -/
def readXE (s : ByteArray) : V × Int :=
  if 65536 < s.size then (V.zero, 2)
  else if utfFrom s 0 = true then (match wholeF true (fuelB s.data.toList) s.data.toList with | .out => (V.zero, 0) | .bad e _ => (V.zero, e) | .ok v => (v, 0))
  else (V.zero, 20)
theorem readT_is {s : ByteArray} {x : V} {er : Int} {at' : Nat} (h : ReadT s x er at') : x = (readXE s).1 ∧ er = (readXE s).2 := by
  unfold ReadT ReadIs at h
  unfold readXE
  split at h
  · rename_i h1
    rw [if_pos h1]
    exact ⟨h.1, h.2.1⟩
  rename_i h1
  rw [if_neg h1]
  split at h
  · rename_i h2
    rw [if_pos h2]
    split at h
    · exact h.elim
    · rename_i e k hw
      rw [hw]
      exact ⟨h.1, h.2.1⟩
    · rename_i v hw
      rw [hw]
      exact ⟨h.1, h.2.1⟩
  · rename_i h2
    rw [if_neg h2]
    exact ⟨h.1, h.2.1⟩
theorem readXE_is (s : ByteArray) : ∃ at', ReadT s (readXE s).1 (readXE s).2 at' := by
  unfold ReadT ReadIs readXE
  by_cases h1 : 65536 < s.size
  · refine ⟨0, ?_⟩
    simp only [if_pos h1]
    (refine ⟨?_, ?_, ?_⟩) <;> first | rfl | trivial
  · by_cases h2 : utfFrom s 0 = true
    · cases hw : wholeF true (fuelB s.data.toList) s.data.toList with
      | out => exact absurd hw (wholeF_in _)
      | bad e k =>
        refine ⟨s.size - k, ?_⟩
        simp only [if_neg h1, if_pos h2]
        (refine ⟨?_, ?_, ?_⟩) <;> first | rfl | trivial
      | ok v =>
        refine ⟨0, ?_⟩
        simp only [if_neg h1, if_pos h2]
        (refine ⟨?_, ?_, ?_⟩) <;> first | rfl | trivial
    · refine ⟨0, ?_⟩
      simp only [if_neg h1, if_neg h2]
      (refine ⟨?_, ?_, ?_⟩) <;> first | rfl | trivial | exact Nat.zero_le _
theorem readD (s : ByteArray) (w : World) (hT : Tabs w) :
    Calls Tryz.prog 12 #[.string s] w fun e w' => ∃ v, ∃ at' : Nat, e = .returned (.tuple #[v, .int .i64 (readXE s).2, .int .i64 at']) ∧ at' ≤ s.size ∧ IsV w' (fun b => w.heap.size ≤ b) (readXE s).1 v ∧ Below w.heap.size w w' := by
  refine (readT s w hT).mono ?_
  rintro e w' ⟨v, x, er, at', rfl, hv, hr, hb⟩
  obtain ⟨rfl, rfl⟩ := readT_is hr
  exact ⟨v, at', rfl, readT_place hr, hv, hb⟩
theorem readD_right {s : ByteArray} (h : (readXE s).2 = 0) : rightB (readXE s).1 = true ∧ numAll (readXE s).1 := by
  obtain ⟨at', h1⟩ := readXE_is s
  exact readT_right h1 h
theorem readD_back {x : V} (hr : rightB x = true) (hn : numAll x) (hs : (printS x).size ≤ 65536) : readXE (printS x) = (x, 0) := by
  obtain ⟨at', h1⟩ := readXE_is (printS x)
  obtain ⟨h2, h3⟩ := readT_back hr hn hs h1
  exact Prod.ext h3 h2
theorem readD_blank {s t : ByteArray} (he : (readXE s).2 = 0) (hs : s.size ≤ 60000) (ht : t.data.toList = aheadB ++ s.data.toList ++ zB) : readXE t = ((readXE s).1, 0) ∨ (readXE t).2 = 28 := by
  obtain ⟨at', h1⟩ := readXE_is s
  obtain ⟨at'', h2⟩ := readXE_is t
  rcases readT_blank h1 he hs ht h2 with ⟨h3, h4⟩ | h3
  · exact .inl (Prod.ext h4 h3)
  · exact .inr h3
theorem cell_ne (b : Nat) {i j : Nat} (h : i ≠ j) : (⟨b, i, none⟩ : Addr) ≠ ⟨b, j, none⟩ := fun e => by injection e with _ e; exact h e
theorem four_cells {wx : World} {b : Nat} {z0 z1 z2 z3 : Value} (h0 : wx.cell? ⟨b, 0, none⟩ = some z0) (h1 : wx.cell? ⟨b, 1, none⟩ = some z1) (h2 : wx.cell? ⟨b, 2, none⟩ = some z2) (h3 : wx.cell? ⟨b, 3, none⟩ = some z3) (c0 c1 c2 c3 : Value) {WY : World}
    (hW : (((wx.setCell ⟨b, 0, none⟩ c0).setCell ⟨b, 1, none⟩ c1).setCell ⟨b, 2, none⟩ c2).setCell ⟨b, 3, none⟩ c3 = WY) :
    WY.cell? ⟨b, 0, none⟩ = some c0 ∧ WY.cell? ⟨b, 1, none⟩ = some c1 ∧ WY.cell? ⟨b, 2, none⟩ = some c2 ∧ WY.cell? ⟨b, 3, none⟩ = some c3 := by
  subst hW
  have o : ∀ (w : World) (i j : Nat) (v : Value), i ≠ j → (w.setCell ⟨b, i, none⟩ v).cell? ⟨b, j, none⟩ = w.cell? ⟨b, j, none⟩ := fun w i j v h => World.cell?_setCell_other _ _ _ _ (by first | exact cell_ne b h | exact cell_ne b (Ne.symm h))
  refine ⟨?_, ?_, ?_, ?_⟩
  · rw [o _ 3 0 _ (by decide), o _ 2 0 _ (by decide), o _ 1 0 _ (by decide)]
    exact World.cell?_setCell_same _ _ _ h0
  · rw [o _ 3 1 _ (by decide), o _ 2 1 _ (by decide)]
    exact World.cell?_setCell_same _ _ _ (by rw [o _ 0 1 _ (by decide)]; exact h1)
  · rw [o _ 3 2 _ (by decide)]
    exact World.cell?_setCell_same _ _ _ (by rw [o _ 1 2 _ (by decide), o _ 0 2 _ (by decide)]; exact h2)
  · exact World.cell?_setCell_same _ _ _ (by rw [o _ 2 3 _ (by decide), o _ 1 3 _ (by decide), o _ 0 3 _ (by decide)]; exact h3)
set_option maxRecDepth 100000 in
set_option maxHeartbeats 8000000 in
theorem textonce_calls (s : ByteArray) (hs : s.size ≤ 140737488355328) (w : World) (hT : Tabs w) :
    Calls Tryz.prog 5 #[.string s] w fun e w' => e = .returned (.bool true) ∧ Below w.heap.size w w' := by
  have h8 := hT.big
  have HT2 := Lib.hid fun (w2 : World) (hb : Below w.heap.size w w2) => hT.later hb h8
  have HR1 := Lib.hid (readD s w hT)
  have HS := Lib.hid fun (W : World) (hb : Below w.heap.size w W) => speaks_calls W (HT2.out W hb)
  have HOK := Lib.hid fun (h : (readXE s).2 = 0) => readD_right h
  obtain ⟨X, hXe⟩ : ∃ X, (readXE s).1 = X := ⟨_, rfl⟩
  obtain ⟨E, hEe⟩ : ∃ E, (readXE s).2 = E := ⟨_, rfl⟩
  rw [hXe, hEe] at HR1 HOK
  clear hXe hEe hT
  by_cases hE : E = 0
  · subst hE
    obtain ⟨hr, hn⟩ := HOK.out rfl
    have HP := Lib.hid fun (v : Value) (w2 : World) (hb : Below w.heap.size w w2) (hv : IsV w2 (fun b => w.heap.size ≤ b) X v) => print_calls X v _ w2 hv (HT2.out w2 hb).utf (HT2.out w2 hb).pow (by have := hb.size; omega)
    rw [printE_ok hr] at HP
    have HR2 := Lib.hid fun (w2 : World) (hb : Below w.heap.size w w2) => readD (printS X) w2 (HT2.out w2 hb)
    have HBK := Lib.hid fun (h : (printS X).size ≤ 65536) => readD_back hr hn h
    generalize printS X = P at HP HR2 HBK
    clear hr hn HOK
    by_cases hlen : 65536 < P.size
    · have hl1 : (65536 : Int) < (P.size : Int) := by omega
      have hl2 : decide ((P.size : Int) > 65536) = true := decide_eq_true hl1
      clear hlen HR2 HBK
      go_enter Tryz.func5, Tryz.ntmps5
      go_wp2_with (first
        | (go_at_call 12; refine HR1.out.mono ?_; rintro e w2 ⟨v, at2, rfl, hat, hv, hb2⟩; have HV := Lib.hid hv; obtain ⟨hbv, A2, cap2, rfl, hc2, hLA2⟩ := hv.eq; clear hv HR1 hLA2; obtain ⟨wx, hwx, hBx, hsx, hbx⟩ := box4' w2 24 (.int .i64 0) (.int .i64 0) (.string ⟨#[]⟩) (.slice none 0 0); obtain ⟨c0, c1, c2, c3⟩ := block4 hbx; have fz := free4 hbx)
        | (go_at_call 7; have hby := four_stored hBx (.int .i64 X.kind) (.int .i64 X.num) (.string X.text) (.slice A2 X.items.length cap2); refine (HP.out _ _ (below_then hb2 hb2.size hby) (HV.out.below hby)).mono ?_; rintro e w3 ⟨rfl, hb3⟩; have hb4 := below_then hb2 hb2.size (below_then hby hby.size hb3); clear HP)
        | (go_at_call 11; refine (HS.out _ hb4).mono ?_; rintro e w9 ⟨rfl, hb9⟩; have hb10 := below_then hb4 hb4.size hb9))
      go_ret
      exact ⟨rfl, hb10⟩
    · have hl1 : ¬ (65536 : Int) < (P.size : Int) := by omega
      have hl2 : decide ((P.size : Int) > 65536) = false := decide_eq_false hl1
      rw [HBK.out (by omega)] at HR2
      dsimp only at HR2
      clear hlen HBK
      go_enter Tryz.func5, Tryz.ntmps5
      go_wp2_with (first
        | (go_at_call 12; refine HR1.out.mono ?_; rintro e w2 ⟨v, at2, rfl, hat, hv, hb2⟩; have HV := Lib.hid hv; obtain ⟨hbv, A2, cap2, rfl, hc2, hLA2⟩ := hv.eq; clear hv HR1 hLA2; obtain ⟨wx, hwx, hBx, hsx, hbx⟩ := box4' w2 24 (.int .i64 0) (.int .i64 0) (.string ⟨#[]⟩) (.slice none 0 0); obtain ⟨c0, c1, c2, c3⟩ := block4 hbx; have fz := free4 hbx; have hm0 := hsx)
        | (go_at_call 7; have hby := four_stored hBx (.int .i64 X.kind) (.int .i64 X.num) (.string X.text) (.slice A2 X.items.length cap2); obtain ⟨WY, hWY⟩ : ∃ WY, ((((wx.setCell ⟨w2.heap.size, 0, none⟩ (.int .i64 X.kind)).setCell ⟨w2.heap.size, 1, none⟩ (.int .i64 X.num)).setCell ⟨w2.heap.size, 2, none⟩ (.string X.text)).setCell ⟨w2.heap.size, 3, none⟩ (.slice A2 X.items.length cap2)) = WY := ⟨_, rfl⟩; obtain ⟨k0, k1, k2, k3⟩ := four_cells c0 c1 c2 c3 _ _ _ _ hWY; rw [hWY] at hby ⊢; have hs2 : w2.heap.size < WY.heap.size := World.block_lt_of_cell? WY _ k0; clear hWY; refine (HP.out _ _ (below_then hb2 hb2.size hby) (HV.out.below hby)).mono ?_; rintro e w3 ⟨rfl, hb3⟩; have hb4 := below_then hb2 hb2.size (below_then hby hby.size hb3); have hv3 := Lib.hid ((HV.out.below hby).below hb3); have q0 := cellB hb3 k0; have q1 := cellB hb3 k1; have q2 := cellB hb3 k2; have q3 := cellB hb3 k3; clear HP k0 k1 k2 k3)
        | (go_at_call 12; refine (HR2.out _ hb4).mono ?_; rintro e w4 ⟨v4, at4, rfl, hat4, hv4, hb5⟩; have HV4 := Lib.hid hv4; obtain ⟨hbv4, A4, cap4, rfl, hc4, hLA4⟩ := hv4.eq; clear hv4 HR2 hLA4; have hb6 := below_then hb4 hb4.size hb5; have r0 := cellB hb5 q0; have r1 := cellB hb5 q1; have r2 := cellB hb5 q2; have r3 := cellB hb5 q3; clear q0 q1 q2 q3; obtain ⟨wz, hwz, hBz, hsz, hbz⟩ := box4' w4 24 (.int .i64 0) (.int .i64 0) (.string ⟨#[]⟩) (.slice none 0 0); obtain ⟨d0, d1, d2, d3⟩ := block4 hbz; have gz := free4 hbz; have t0 := cellB hBz r0; have t1 := cellB hBz r1; have t2 := cellB hBz r2; have t3 := cellB hBz r3; have hne : ¬ w4.heap.size = w2.heap.size := (by have h1 := hb3.size; have h2 := hb5.size; omega); clear r0 r1 r2 r3)
        | (go_at_call 13; have hbu := four_stored hBz (.int .i64 X.kind) (.int .i64 X.num) (.string X.text) (.slice A4 X.items.length cap4); refine (same_calls X X _ _ _ _ _ ((hv3.out.below hb5).below hbu) (HV4.out.below hbu)).mono ?_; rintro e w5 ⟨rfl, hb7⟩; rw [eqV_self]; have hb8 := below_then hb6 hb6.size (below_then hbu hbu.size hb7))
        | (go_at_call 11; refine (HS.out _ hb8).mono ?_; rintro e w9 ⟨rfl, hb9⟩; have hb10 := below_then hb8 hb8.size hb9))
      go_ret
      exact ⟨rfl, hb10⟩
  · have hE2 : (E != 0) = true := by simpa using hE
    clear HOK
    go_enter Tryz.func5, Tryz.ntmps5
    go_wp2_with (first
      | (go_at_call 12; refine HR1.out.mono ?_; rintro e w2 ⟨v, at2, rfl, hat, hv, hb2⟩; have HV := Lib.hid hv; obtain ⟨hbv, A2, cap2, rfl, hc2, hLA2⟩ := hv.eq; clear hv HR1 hLA2; have hat1 : (at2 : Int) ≤ (s.size : Int) := (by omega); have hat2 : (0 : Int) ≤ (at2 : Int) := (by omega); have hat3 : decide ((at2 : Int) ≤ (s.size : Int)) = true := decide_eq_true hat1; have hat4 : decide ((at2 : Int) ≥ 0) = true := decide_eq_true hat2; obtain ⟨wx, hwx, hBx, hsx, hbx⟩ := box4' w2 24 (.int .i64 0) (.int .i64 0) (.string ⟨#[]⟩) (.slice none 0 0); obtain ⟨c0, c1, c2, c3⟩ := block4 hbx; have fz := free4 hbx; have hby := four_stored hBx (.int .i64 X.kind) (.int .i64 X.num) (.string X.text) (.slice A2 X.items.length cap2))
      | (go_at_call 11; have hb4 := below_then hb2 hb2.size hby; refine (HS.out _ hb4).mono ?_; rintro e w9 ⟨rfl, hb9⟩; have hb10 := below_then hb4 hb4.size hb9))
    go_ret
    exact ⟨rfl, hb10⟩
end Go.Proofs.YtoiipdknamgcmaaGreatDoor

/- The law TextBlank. -/
set_option linter.unusedVariables false
set_option linter.unusedSimpArgs false
namespace Go.Proofs.YtoiipdknamgcmaaGreatDoor
open Go.RowKit Go.Shelf
attribute [local go_sem] lt_succ_of

def aheadS : ByteArray := ⟨#[32, 44, 59, 32, 115, 111, 10, 32, 35, 95, 32, 110, 105, 108, 32]⟩
def behindS : ByteArray := ⟨#[10, 59]⟩
theorem blank_bytes (s : ByteArray) : (aheadS ++ s ++ behindS).data.toList = aheadB ++ s.data.toList ++ zB := by
  rw [ByteArray.data_append, ByteArray.data_append, Array.toList_append, Array.toList_append]
  rfl
set_option maxRecDepth 100000 in
set_option maxHeartbeats 8000000 in
theorem textblank_calls (s : ByteArray) (hs : s.size ≤ 140737488355328) (w : World) (hT : Tabs w) :
    Calls Tryz.prog 6 #[.string s] w fun e w' => e = .returned (.bool true) ∧ Below w.heap.size w w' := by
  have h8 := hT.big
  have HT2 := Lib.hid fun (w2 : World) (hb : Below w.heap.size w w2) => hT.later hb h8
  have HR1 := Lib.hid (readD s w hT)
  have HS := Lib.hid fun (W : World) (hb : Below w.heap.size w W) => speaks_calls W (HT2.out W hb)
  have HBL := Lib.hid fun (h : (readXE s).2 = 0) (hs : s.size ≤ 60000) => readD_blank (t := aheadS ++ s ++ behindS) h hs (blank_bytes s)
  have HR2 := Lib.hid fun (w2 : World) (hb : Below w.heap.size w w2) => readD (aheadS ++ s ++ behindS) w2 (HT2.out w2 hb)
  obtain ⟨X, hXe⟩ : ∃ X, (readXE s).1 = X := ⟨_, rfl⟩
  obtain ⟨E, hEe⟩ : ∃ E, (readXE s).2 = E := ⟨_, rfl⟩
  rw [hXe, hEe] at HR1 HBL
  clear hXe hEe hT
  by_cases hE : E = 0
  · subst hE
    by_cases hlen : 60000 < s.size
    · have hl1 : (60000 : Int) < (s.size : Int) := by omega
      have hl2 : decide ((s.size : Int) > 60000) = true := decide_eq_true hl1
      clear hlen HR2 HBL
      go_enter Tryz.func6, Tryz.ntmps6
      go_wp2_with (first
        | (go_at_call 12; refine HR1.out.mono ?_; rintro e w2 ⟨v, at2, rfl, hat, hv, hb2⟩; have HV := Lib.hid hv; obtain ⟨hbv, A2, cap2, rfl, hc2, hLA2⟩ := hv.eq; clear hv HR1 hLA2; obtain ⟨wx, hwx, hBx, hsx, hbx⟩ := box4' w2 24 (.int .i64 0) (.int .i64 0) (.string ⟨#[]⟩) (.slice none 0 0); obtain ⟨c0, c1, c2, c3⟩ := block4 hbx; have fz := free4 hbx; have hby := four_stored hBx (.int .i64 X.kind) (.int .i64 X.num) (.string X.text) (.slice A2 X.items.length cap2))
        | (go_at_call 11; have hb4 := below_then hb2 hb2.size hby; refine (HS.out _ hb4).mono ?_; rintro e w9 ⟨rfl, hb9⟩; have hb10 := below_then hb4 hb4.size hb9))
      go_ret
      exact ⟨rfl, hb10⟩
    · have hl1 : ¬ (60000 : Int) < (s.size : Int) := by omega
      have hl2 : decide ((s.size : Int) > 60000) = false := decide_eq_false hl1
      have hl3 : s.size ≤ 60000 := by omega
      have hl4 : (aheadS ++ s).size = 15 + s.size := by rw [ByteArray.size_append]; rfl
      have HB2 := HBL.out rfl hl3
      obtain ⟨Y, hYe⟩ : ∃ Y, (readXE (aheadS ++ s ++ behindS)).1 = Y := ⟨_, rfl⟩
      obtain ⟨F, hFe⟩ : ∃ F, (readXE (aheadS ++ s ++ behindS)).2 = F := ⟨_, rfl⟩
      have HB3 : (F = 0 ∧ Y = X) ∨ F = 28 := by
        rcases HB2 with h | h
        · rw [← hYe, ← hFe, h]; exact .inl ⟨rfl, rfl⟩
        · rw [← hFe]; exact .inr h
      rw [hYe, hFe] at HR2
      unfold aheadS behindS at HR2 
      clear hlen HBL HB2 hYe hFe
      have hl5 : ((⟨#[32, 44, 59, 32, 115, 111, 10, 32, 35, 95, 32, 110, 105, 108, 32]⟩ : ByteArray) ++ s).size = 15 + s.size := hl4
      clear hl4
      rcases HB3 with ⟨hF, hY⟩ | hF
      · subst hF hY
        go_enter Tryz.func6, Tryz.ntmps6
        go_wp2_with (first
          | (go_at_call 12; refine HR1.out.mono ?_; rintro e w2 ⟨v, at2, rfl, hat, hv, hb2⟩; have HV := Lib.hid hv; obtain ⟨hbv, A2, cap2, rfl, hc2, hLA2⟩ := hv.eq; clear hv HR1 hLA2; obtain ⟨wx, hwx, hBx, hsx, hbx⟩ := box4' w2 24 (.int .i64 0) (.int .i64 0) (.string ⟨#[]⟩) (.slice none 0 0); obtain ⟨c0, c1, c2, c3⟩ := block4 hbx; have fz := free4 hbx; have hm0 := hsx)
          | (go_at_call 12; have hby := four_stored hBx (.int .i64 Y.kind) (.int .i64 Y.num) (.string Y.text) (.slice A2 Y.items.length cap2); obtain ⟨WY, hWY⟩ : ∃ WY, ((((wx.setCell ⟨w2.heap.size, 0, none⟩ (.int .i64 Y.kind)).setCell ⟨w2.heap.size, 1, none⟩ (.int .i64 Y.num)).setCell ⟨w2.heap.size, 2, none⟩ (.string Y.text)).setCell ⟨w2.heap.size, 3, none⟩ (.slice A2 Y.items.length cap2)) = WY := ⟨_, rfl⟩; obtain ⟨k0, k1, k2, k3⟩ := four_cells c0 c1 c2 c3 _ _ _ _ hWY; rw [hWY] at hby ⊢; have hs2 : w2.heap.size < WY.heap.size := World.block_lt_of_cell? WY _ k0; clear hWY; have hb4 := below_then hb2 hb2.size hby; go_loud (refine (HR2.out _ hb4).mono ?_); rintro e w4 ⟨v4, at4, rfl, hat4, hv4, hb5⟩; have HV2 := Lib.hid ((HV.out.below hby).below hb5); have HV4 := Lib.hid hv4; obtain ⟨hbv4, A4, cap4, rfl, hc4, hLA4⟩ := hv4.eq; clear hv4 HR2 hLA4; have hb6 := below_then hb4 hb4.size hb5; have r0 := cellB hb5 k0; have r1 := cellB hb5 k1; have r2 := cellB hb5 k2; have r3 := cellB hb5 k3; clear k0 k1 k2 k3; obtain ⟨wz, hwz, hBz, hsz, hbz⟩ := box4' w4 24 (.int .i64 0) (.int .i64 0) (.string ⟨#[]⟩) (.slice none 0 0); obtain ⟨d0, d1, d2, d3⟩ := block4 hbz; have gz := free4 hbz; have t0 := cellB hBz r0; have t1 := cellB hBz r1; have t2 := cellB hBz r2; have t3 := cellB hBz r3; have hne : ¬ w4.heap.size = w2.heap.size := (by have h2 := hb5.size; omega); clear r0 r1 r2 r3)
          | (go_at_call 13; have hbu := four_stored hBz (.int .i64 Y.kind) (.int .i64 Y.num) (.string Y.text) (.slice A4 Y.items.length cap4); refine (same_calls Y Y _ _ _ _ _ (HV2.out.below hbu) (HV4.out.below hbu)).mono ?_; rintro e w5 ⟨rfl, hb7⟩; rw [eqV_self]; have hb8 := below_then hb6 hb6.size (below_then hbu hbu.size hb7))
          | (go_at_call 11; refine (HS.out _ hb8).mono ?_; rintro e w9 ⟨rfl, hb9⟩; have hb10 := below_then hb8 hb8.size hb9))
        go_ret
        exact ⟨rfl, hb10⟩
      · subst hF
        go_enter Tryz.func6, Tryz.ntmps6
        go_wp2_with (first
          | (go_at_call 12; refine HR1.out.mono ?_; rintro e w2 ⟨v, at2, rfl, hat, hv, hb2⟩; have HV := Lib.hid hv; obtain ⟨hbv, A2, cap2, rfl, hc2, hLA2⟩ := hv.eq; clear hv HR1 hLA2; obtain ⟨wx, hwx, hBx, hsx, hbx⟩ := box4' w2 24 (.int .i64 0) (.int .i64 0) (.string ⟨#[]⟩) (.slice none 0 0); obtain ⟨c0, c1, c2, c3⟩ := block4 hbx; have fz := free4 hbx; have hm0 := hsx)
          | (go_at_call 12; have hby := four_stored hBx (.int .i64 X.kind) (.int .i64 X.num) (.string X.text) (.slice A2 X.items.length cap2); have hb4 := below_then hb2 hb2.size hby; refine (HR2.out _ hb4).mono ?_; rintro e w4 ⟨v4, at4, rfl, hat4, hv4, hb5⟩; obtain ⟨hbv4, A4, cap4, rfl, hc4, hLA4⟩ := hv4.eq; clear hv4 HR2 hLA4; have hb6 := below_then hb4 hb4.size hb5; obtain ⟨wz, hwz, hBz, hsz, hbz⟩ := box4' w4 24 (.int .i64 0) (.int .i64 0) (.string ⟨#[]⟩) (.slice none 0 0); obtain ⟨d0, d1, d2, d3⟩ := block4 hbz; have gz := free4 hbz)
          | (go_at_call 11; have hbu := four_stored hBz (.int .i64 Y.kind) (.int .i64 Y.num) (.string Y.text) (.slice A4 Y.items.length cap4); have hb8 := below_then hb6 hb6.size hbu; refine (HS.out _ hb8).mono ?_; rintro e w9 ⟨rfl, hb9⟩; have hb10 := below_then hb8 hb8.size hb9))
        go_ret
        exact ⟨rfl, hb10⟩
  · have hE2 : (E != 0) = true := by simpa using hE
    clear HBL HR2
    go_enter Tryz.func6, Tryz.ntmps6
    go_wp2_with (first
      | (go_at_call 12; refine HR1.out.mono ?_; rintro e w2 ⟨v, at2, rfl, hat, hv, hb2⟩; have HV := Lib.hid hv; obtain ⟨hbv, A2, cap2, rfl, hc2, hLA2⟩ := hv.eq; clear hv HR1 hLA2; obtain ⟨wx, hwx, hBx, hsx, hbx⟩ := box4' w2 24 (.int .i64 0) (.int .i64 0) (.string ⟨#[]⟩) (.slice none 0 0); obtain ⟨c0, c1, c2, c3⟩ := block4 hbx; have fz := free4 hbx; have hby := four_stored hBx (.int .i64 X.kind) (.int .i64 X.num) (.string X.text) (.slice A2 X.items.length cap2))
      | (go_at_call 11; have hb4 := below_then hb2 hb2.size hby; refine (HS.out _ hb4).mono ?_; rintro e w9 ⟨rfl, hb9⟩; have hb10 := below_then hb4 hb4.size hb9))
    go_ret
    exact ⟨rfl, hb10⟩
end Go.Proofs.YtoiipdknamgcmaaGreatDoor
