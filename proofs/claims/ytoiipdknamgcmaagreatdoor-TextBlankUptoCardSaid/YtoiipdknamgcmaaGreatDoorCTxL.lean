/- The reference's printed form. The reference's Print and Quote. -/
import Derived.StillTailTactics
import Derived.Test.YtoiipdknamgcmaaGreatDoorCTxK
import Derived.Test.YtoiipdknamgcmaaGreatDoorCTxValH
/- The reference's printed form. -/
set_option linter.unusedVariables false
set_option linter.unusedSimpArgs false
namespace Go.Proofs.YtoiipdknamgcmaaGreatDoor
open Go.RowKit Go.Shelf
attribute [local go_sem] lt_succ_of

def bsOf (l : List UInt8) : ByteArray := ⟨l.toArray⟩
theorem bsOf_app (a b : List UInt8) : bsOf a ++ bsOf b = bsOf (a ++ b) := ba_eq (by rw [data_app]; rfl)
/-- The reference prints as the program does, up to a size. -/
def RpAt (n : Nat) : Prop := ∀ (x : V), V.size x < n → okAll x = true → ∀ (vx : Value) (w : World) (S : Nat → Prop), IsV w S x vx →
  Calls Tryz.prog 18 #[vx] w fun e w' => e = .returned (.string (bsOf (prB x))) ∧ Below w.heap.size w w' ∧ (prB x).length + 10 ≤ 2000 * V.size x
theorem prLB_snoc : ∀ (l : List V) (x : V) (f : Bool), prLB (l ++ [x]) f = prLB l f ++ (if (f && l.isEmpty) = true then [] else [32]) ++ prB x
  | [], x, f => by cases f <;> simp [prLB]
  | y :: l, x, f => by
    rw [List.cons_append, prLB, prLB_snoc l x false, prLB]
    cases f <;> simp
theorem prLB_take (l : List V) (i : Nat) (hi : i < l.length) : prLB (l.take (i + 1)) true = prLB (l.take i) true ++ (if i = 0 then [] else [32]) ++ prB (itemAt l i) := by
  have h : l.take (i + 1) = l.take i ++ [itemAt l i] := by
    rw [List.take_succ_eq_append_getElem hi]
    simp [itemAt, List.getD_eq_getElem?_getD, List.getElem?_eq_getElem hi]
  rw [h, prLB_snoc]
  congr 2
  rw [Bool.true_and]
  by_cases h0 : i = 0
  · subst h0; simp
  · rw [if_neg h0, if_neg]
    rw [List.isEmpty_iff]
    intro h2
    have := congrArg List.length h2
    rw [List.length_take, List.length_nil] at this
    omega
set_option maxRecDepth 100000 in
set_option maxHeartbeats 4000000 in
theorem ritems_step (n : Nat) (ih : RpAt n) (l : List V) (hn : ∀ x ∈ l, V.size x < n) (hok : okAlls l = true) (vl : Value) (w : World) (S : Nat → Prop) (hl : IsS w S l vl) (hsz : V.sizes l ≤ 1024) :
    Calls Tryz.prog 34 #[vl] w fun e w' => e = .returned (.string (bsOf (prLB l true))) ∧ Below w.heap.size w w' ∧ (prLB l true).length ≤ 2000 * V.sizes l := by
  have hl2 := length_sizes l
  obtain ⟨A, c, rfl, hc, hl64, hA⟩ := hl
  have HA := Lib.hid hA
  have IH := Lib.hid ih
  have HN := Lib.hid hn
  have HOK := Lib.hid (okAlls_mem hok)
  clear hA ih hn hok
  go_enter Tryz.func34, Tryz.ntmps34
  go_wp2_with fail
  go_loopw [3, 4] (fun vs vi wr => ∃ (i : Nat) (o : ByteArray), vi = .int .i64 i ∧ vs = .string o ∧ i ≤ l.length ∧ Hid (o = bsOf (prLB (l.take i) true)) ∧ Hid ((prLB (l.take i) true).length ≤ 2000 * V.sizes (l.take i)) ∧ Below w.heap.size w wr) (fun _ v _ => l.length - (intOf v).toNat)
  case atStart => exact ⟨0, _, rfl, rfl, by omega, Lib.hid rfl, Lib.hid (by simp [prLB]), Below.refl _ _⟩
  case round =>
    obtain ⟨i, o, rfl, rfl, hi, ho, hL, hf⟩ := hrel
    have hsp := sizes_part l i
    have hos : o.size ≤ 2048000 := by
      rw [ho.out]
      have := hL.out
      show (prLB (l.take i) true).length ≤ _
      omega
    by_cases hlt : i < l.length
    · have hj2 : (i : Int) < (l.length : Int) := by omega
      obtain ⟨ad, A1, cap1, rfl, hla', hbd, f0, f1, f2, f3, hcap1, hLA⟩ := (HA.out.below hf).at i hlt
      have HX := Lib.hid (IsV.mk hbd hcap1 hLA)
      have hm : itemAt l i ∈ l := itemAt_mem hlt
      have hst := sizes_take2 l i hlt
      have hsp2 := sizes_part l (i + 1)
      have HP := Lib.hid fun (W : World) (hW : Below wr.heap.size wr W) => IH.out (itemAt l i) (HN.out _ hm) (HOK.out _ hm) _ W S (HX.out.below hW)
      have HT := Lib.hid (prLB_take l i hlt)
      by_cases h0 : i = 0
      · have d0 : decide ((0 : Int) < (i : Int)) = false := decide_eq_false (by omega)
        have d0n : ¬ ((0 : Int) < (i : Int)) := by omega
        have d0m : ¬ (0 < i) := by omega
        have H0 := Lib.hid h0
        clear h0
        go_wp2_with (go_at_call 18; refine (HP.out _ (Below.refl _ _)).mono ?_; rintro e w2 ⟨rfl, hb2, hlen⟩; have HLn := Lib.hid hlen; have hxs : (bsOf (prB (itemAt l i))).size ≤ 2048000 := (show (prB (itemAt l i)).length ≤ 2048000 by omega); clear hlen)
        refine ⟨⟨i + 1, _, by simp, rfl, by omega, Lib.hid (by rw [HT.out, if_pos H0.out]; rw [List.append_nil, ← bsOf_app, ho.out]), Lib.hid (by have h1 := hL.out; have h2 := HLn.out; rw [HT.out, if_pos H0.out]; simp only [List.length_append, List.length_cons, List.length_nil]; omega), below_then hf hf.size hb2⟩, by simp [intOf]; omega⟩
      · have d0 : decide ((0 : Int) < (i : Int)) = true := decide_eq_true (by omega)
        have d0n : ((0 : Int) < (i : Int)) := by omega
        have d0m : (0 < i) := by omega
        have H0 := Lib.hid h0
        clear h0
        go_wp2_with (go_at_call 18; refine (HP.out _ (Below.refl _ _)).mono ?_; rintro e w2 ⟨rfl, hb2, hlen⟩; have HLn := Lib.hid hlen; have hxs : (bsOf (prB (itemAt l i))).size ≤ 2048000 := (show (prB (itemAt l i)).length ≤ 2048000 by omega); clear hlen)
        refine ⟨⟨i + 1, _, by simp, rfl, by omega, Lib.hid (by rw [HT.out, if_neg H0.out]; rw [← bsOf_app, ← bsOf_app, ho.out]; rfl), Lib.hid (by have h1 := hL.out; have h2 := HLn.out; rw [HT.out, if_neg H0.out]; simp only [List.length_append, List.length_cons, List.length_nil]; omega), below_then hf hf.size hb2⟩, by simp [intOf]; omega⟩
    · have hj : ¬ (i : Int) < (l.length : Int) := by omega
      have HE : Hid (l.take i = l) := Lib.hid (List.take_of_length_le (by omega))
      rw [HE.out] at ho hL
      go_wp2_with fail
      go_ret
      exact ⟨by rw [← ho.out]; rfl, hf, hL.out⟩
theorem prB_eq (x : V) : prB x = if x.kind = 0 then [110, 105, 108] else if x.kind = 1 then (if x.num = 1 then [116, 114, 117, 101] else [102, 97, 108, 115, 101]) else if x.kind = 2 then Lib.itoa x.num
    else if x.kind = 3 then [34] ++ escB x.text.data.toList ++ [34] else if x.kind = 4 then [91] ++ prLB x.items true ++ [93] else if x.kind = 5 then [35, 123] ++ prLB x.items true ++ [125] else [123] ++ prLB x.items true ++ [125] := by
  cases x; rw [prB]; rfl
set_option maxRecDepth 100000 in
set_option maxHeartbeats 8000000 in
theorem rprinted_step (n : Nat) (ih : RpAt n) (hsz : n ≤ 1024) : RpAt (n + 1) := by
  intro x hx hok vx w S hX
  obtain ⟨hbx, Ax, cx, rfl, hcx, hAx⟩ := hX.eq
  have hp := prB_eq x
  obtain ⟨K, hK⟩ : ∃ K, x.kind = K := ⟨_, rfl⟩
  rw [hK] at hp ⊢
  obtain ⟨w1, hw1, hB1, hsz1, hb0⟩ := box4' w 24 (.int .i64 K) (.int .i64 x.num) (.string x.text) (.slice Ax x.items.length cx)
  obtain ⟨e0, e1, e2, e3⟩ := block4 hb0
  have hpos := V.size_pos x
  by_cases k0 : K = 0
  · subst k0
    rw [if_pos rfl] at hp
    have HP := Lib.hid hp
    clear hK hp
    go_enter Tryz.func18, Tryz.ntmps18
    go_wp2_with fail
    go_ret
    exact ⟨by rw [HP.out]; rfl, hB1, by rw [HP.out]; simp only [List.length_cons, List.length_nil]; omega⟩
  have hoks : okAlls x.items = true := by have := okAll_eq x; rw [hok] at this; exact (Bool.and_eq_true _ _ ▸ this.symm).2
  have hse := size_eq x
  have hmem : ∀ y ∈ x.items, V.size y < n := fun y hy => by
    have := V.sizes_mem hy
    omega
  have hS1 : IsS w1 S x.items (.slice Ax x.items.length cx) := (IsV.items hbx hcx hAx).below hB1
  have HI := Lib.hid (ritems_step n ih x.items hmem hoks _ w1 S hS1 (by omega))
  have hkk := okAll_kind hok
  rw [hK] at hkk
  clear hS1 hmem ih
  by_cases k1 : K = 1
  · subst k1
    rw [if_neg (by decide), if_pos rfl] at hp
    obtain ⟨N, hN⟩ : ∃ N, x.num = N := ⟨_, rfl⟩
    rw [hN] at hp e1 hw1 ⊢
    by_cases n1 : N = 1
    · subst n1
      rw [if_pos rfl] at hp
      have HP := Lib.hid hp
      clear hK hp hN
      go_enter Tryz.func18, Tryz.ntmps18
      go_wp2_with fail
      go_ret
      exact ⟨by rw [HP.out]; rfl, hB1, by rw [HP.out]; simp only [List.length_cons, List.length_nil]; omega⟩
    · have n2 : (N == 1) = false := by rw [beq_eq_false_iff_ne]; exact n1
      rw [if_neg n1] at hp
      have HP := Lib.hid hp
      clear hK hp hN
      go_enter Tryz.func18, Tryz.ntmps18
      go_wp2_with fail
      go_ret
      exact ⟨by rw [HP.out]; rfl, hB1, by rw [HP.out]; simp only [List.length_cons, List.length_nil]; omega⟩
  by_cases k2 : K = 2
  · subst k2
    rw [if_neg (by decide), if_neg (by decide), if_pos rfl] at hp
    have HP := Lib.hid hp
    have HIL := Lib.hid (Lib.itoa_length_le x.num hbx.n0 hbx.n1)
    have HF := Lib.hid (num_calls x.num hbx.n0 hbx.n1 w1)
    clear hK hp
    go_enter Tryz.func18, Tryz.ntmps18
    go_wp2_with (go_at_call 33; refine HF.out.mono ?_; rintro e w2 ⟨rfl, hb2⟩)
    go_ret
    exact ⟨by rw [HP.out]; rfl, below_then hB1 hB1.size hb2, by rw [HP.out]; have := HIL.out; omega⟩
  by_cases k3 : K = 3
  · subst k3
    rw [if_neg (by decide), if_neg (by decide), if_neg (by decide), if_pos rfl] at hp
    have HP := Lib.hid hp
    have hts := hkk.2.2 rfl
    have HQ := Lib.hid (rquote_calls x.text hts w1)
    have HL6 := Lib.hid (escB_len x.text.data.toList)
    clear hK hp
    go_enter Tryz.func18, Tryz.ntmps18
    go_wp2_with (go_at_call 19; refine HQ.out.mono ?_; rintro e w2 ⟨rfl, rfl⟩)
    go_ret
    refine ⟨by rw [HP.out]; rfl, hB1, ?_⟩
    rw [HP.out]
    have h1 := HL6.out
    have h2 : x.text.data.toList.length = x.text.size := rfl
    simp only [List.length_append, List.length_cons, List.length_nil]
    omega
  have hls : (bsOf (prLB x.items true)).size = (prLB x.items true).length := rfl
  by_cases k4 : K = 4
  · subst k4
    rw [if_neg (by decide), if_neg (by decide), if_neg (by decide), if_neg (by decide), if_pos rfl] at hp
    have HP := Lib.hid hp
    clear hK hp
    go_enter Tryz.func18, Tryz.ntmps18
    go_wp2_with (go_at_call 34; refine HI.out.mono ?_; rintro e w2 ⟨rfl, hb2, hl2⟩; have HL2 := Lib.hid hl2; have hxs : (bsOf (prLB x.items true)).size ≤ 2048000 := (by rw [hls]; omega); clear hl2 hls)
    go_ret
    refine ⟨by rw [HP.out, ← bsOf_app, ← bsOf_app]; rfl, below_then hB1 hB1.size hb2, ?_⟩
    rw [HP.out]
    have h1 := HL2.out
    simp only [List.length_append, List.length_cons, List.length_nil]
    omega
  by_cases k5 : K = 5
  · subst k5
    rw [if_neg (by decide), if_neg (by decide), if_neg (by decide), if_neg (by decide), if_neg (by decide), if_pos rfl] at hp
    have HP := Lib.hid hp
    clear hK hp
    go_enter Tryz.func18, Tryz.ntmps18
    go_wp2_with (go_at_call 34; refine HI.out.mono ?_; rintro e w2 ⟨rfl, hb2, hl2⟩; have HL2 := Lib.hid hl2; have hxs : (bsOf (prLB x.items true)).size ≤ 2048000 := (by rw [hls]; omega); clear hl2 hls)
    go_ret
    refine ⟨by rw [HP.out, ← bsOf_app, ← bsOf_app]; rfl, below_then hB1 hB1.size hb2, ?_⟩
    rw [HP.out]
    have h1 := HL2.out
    simp only [List.length_append, List.length_cons, List.length_nil]
    omega
  have k6 : K = 6 := by omega
  subst k6
  rw [if_neg (by decide), if_neg (by decide), if_neg (by decide), if_neg (by decide), if_neg (by decide), if_neg (by decide)] at hp
  have HP := Lib.hid hp
  clear hK hp
  go_enter Tryz.func18, Tryz.ntmps18
  go_wp2_with (go_at_call 34; refine HI.out.mono ?_; rintro e w2 ⟨rfl, hb2, hl2⟩; have HL2 := Lib.hid hl2; have hxs : (bsOf (prLB x.items true)).size ≤ 2048000 := (by rw [hls]; omega); clear hl2 hls)
  go_ret
  refine ⟨by rw [HP.out, ← bsOf_app, ← bsOf_app]; rfl, below_then hB1 hB1.size hb2, ?_⟩
  rw [HP.out]
  have h1 := HL2.out
  simp only [List.length_append, List.length_cons, List.length_nil]
  omega
theorem rprinted_all : ∀ n, n ≤ 1025 → RpAt n
  | 0, _ => fun x hx => absurd hx (by omega)
  | n + 1, h => rprinted_step n (rprinted_all n (by omega)) (by omega)
end Go.Proofs.YtoiipdknamgcmaaGreatDoor

/- The reference's Print and Quote. -/
set_option linter.unusedVariables false
set_option linter.unusedSimpArgs false
namespace Go.Proofs.YtoiipdknamgcmaaGreatDoor
open Go.RowKit Go.Shelf
attribute [local go_sem] lt_succ_of

set_option maxRecDepth 100000 in
theorem rprint_calls (x : V) (vx : Value) (S : Nat → Prop) (w : World) (hX : IsV w S x vx) :
    Calls Tryz.prog 8 #[vx] w fun e w' => e = .returned (.tuple #[.string (printS x), .int .i64 (printE x)]) ∧ Below w.heap.size w w' := by
  obtain ⟨hbx, A, ca, rfl, hca, hA⟩ := hX.eq
  obtain ⟨w1, hw1, hB1, hsz, hb0⟩ := box4' w 24 (.int .i64 x.kind) (.int .i64 x.num) (.string x.text) (.slice A x.items.length ca)
  obtain ⟨a0, a1, a2, a3⟩ := block4 hb0
  have HX1 := Lib.hid (hX.below hB1)
  have HR := Lib.hid (rightref_calls x _ w1 S HX1.out)
  cases hr : rightB x with
  | true =>
    rw [show printS x = bsOf (prB x) from if_pos hr, show printE x = 0 from if_pos hr]
    rw [hr] at HR
    have hok : okIn x 16 1024 := of_decide_eq_true hr
    have HP := Lib.hid (rprinted_all (V.size x + 1) (by have := hok.2.2; omega) x (Nat.lt_succ_self _) hok.1)
    clear hX hA hok hr
    go_enter Tryz.func8, Tryz.ntmps8
    go_wp2_with (first
      | (go_at_call 17; refine HR.out.mono ?_; rintro e w2 ⟨rfl, hb2⟩; obtain ⟨c0, c1, c2, c3⟩ := block4 (blockB hb2 hb0); clear a0 a1 a2 a3)
      | (go_at_call 18; refine (HP.out _ w2 S (HX1.out.below hb2)).mono ?_; rintro e w3 ⟨rfl, hb3, _⟩; have hb4 := below_then hB1 hB1.size (below_then hb2 hb2.size hb3)))
    go_ret2
    exact ⟨rfl, hb4⟩
  | false =>
    rw [show printS x = ⟨#[]⟩ from if_neg (by rw [hr]; decide), show printE x = 3 from if_neg (by rw [hr]; decide)]
    rw [hr] at HR
    clear hX hA hr
    go_enter Tryz.func8, Tryz.ntmps8
    go_wp2_with (go_at_call 17; refine HR.out.mono ?_; rintro e w2 ⟨rfl, hb2⟩)
    go_ret2
    exact ⟨rfl, below_then hB1 hB1.size hb2⟩
theorem strV_right {s : ByteArray} (h : rightB (strV s) = true) : s.size ≤ 256 := (okAll_kind (x := strV s) (of_decide_eq_true h : okIn _ _ _).1).2.2 rfl
set_option maxRecDepth 100000 in
theorem rQuote_calls (s : ByteArray) (hs : s.size ≤ 140737488355328) (w : World) :
    Calls Tryz.prog 10 #[.string s] w fun e w' => e = .returned (.tuple #[.string (printS (strV s)), .int .i64 (printE (strV s))]) ∧ Below w.heap.size w w' := by
  have HR := Lib.hid fun W => rightref_calls (strV s) _ W (fun _ => True) (strV_is s hs W _)
  cases hr : rightB (strV s) with
  | true =>
    have hp : printS (strV s) = ⟨([34] ++ escB s.data.toList ++ [34]).toArray⟩ := by
      rw [show printS (strV s) = bsOf (prB (strV s)) from if_pos hr, strV, prB]
      rfl
    have HQ := Lib.hid fun W => rquote_calls s (strV_right hr) W
    rw [hp, show printE (strV s) = 0 from if_pos hr]
    rw [hr] at HR
    clear hr hp
    generalize (⟨([34] ++ escB s.data.toList ++ [34]).toArray⟩ : ByteArray) = RES at HQ ⊢
    go_enter Tryz.func10, Tryz.ntmps10
    go_wp2_with (first
      | (go_at_call 17; refine (HR.out _).mono ?_; rintro e w2 ⟨rfl, hb2⟩)
      | (go_at_call 19; refine (HQ.out _).mono ?_; rintro e w3 ⟨rfl, rfl⟩))
    go_ret2
    exact ⟨rfl, hb2⟩
  | false =>
    rw [show printS (strV s) = ⟨#[]⟩ from if_neg (by rw [hr]; decide), show printE (strV s) = 3 from if_neg (by rw [hr]; decide)]
    rw [hr] at HR
    clear hr
    go_enter Tryz.func10, Tryz.ntmps10
    go_wp2_with (go_at_call 17; refine (HR.out _).mono ?_; rintro e w2 ⟨rfl, hb2⟩)
    go_ret2
    exact ⟨rfl, hb2⟩
end Go.Proofs.YtoiipdknamgcmaaGreatDoor
