/- The reference's right values. Numbers as values; lists as values. Lists as values. -/
import Derived.Test.YtjjbhnkplbjfeaaDoorCValF
import Derived.Test.YtjjbhnkplbjfeaaDoorCBase
/- The reference's right values. -/
set_option linter.unusedVariables false
set_option linter.unusedSimpArgs false
namespace Go.Proofs.YtjjbhnkplbjfeaaDoor
open Go.RowKit Go.Shelf
attribute [local go_sem] lt_succ_of

theorem fits_bad {x : V} {d m : Int} (h : ¬ okIn x d m) : fitsV x d m = -1 := by unfold fitsV; rw [if_neg h]
set_option maxHeartbeats 1000000 in
set_option maxRecDepth 100000 in
theorem fits_calls (x : V) : ∀ (deep most : Int) (vx : Value) (w : World) (S : Nat → Prop) (hx : IsV w S x vx) (hd : 0 ≤ deep) (hd2 : deep ≤ 16) (hm : -4294967296 ≤ most) (hm2 : most ≤ 1024),
    Calls Tryd.prog 99 #[vx, .int .i64 deep, .int .i64 most] w fun e w' => e = .returned (.int .i64 (fitsV x deep most)) ∧ Below w.heap.size w w' := by
  induction x using V.induct with
  | h x ih =>
  intro deep most vx w S hx hd hd2 hm hm2
  obtain ⟨hbx, A, ca, rfl, hca, hA⟩ := hx.eq
  have IH := Lib.hid ih
  have hl1 := hbx.l1
  have HX := Lib.hid hx
  clear ih hx
  have hiff := okIn_iff x deep most hd
  obtain ⟨CX, hCX⟩ : ∃ c, fitsV x deep most = c := ⟨_, rfl⟩
  rw [hCX]
  obtain ⟨w1, hw1, hB1, hsz, hb0⟩ := box1 w (.int .i64 x.kind) (.int .i64 x.num) (.string x.text) (.slice A x.items.length ca) 33
  obtain ⟨a0, a1, a2, a3⟩ := block4 hb0
  clear hb0
  have hlen := length_sizes x.items
  by_cases h1 : most < 1
  · have HC : Hid (CX = -1) := Lib.hid (by rw [← hCX]; refine fits_bad ?_; rw [hiff]; omega)
    clear hCX hiff
    go_enter Tryd.func99, Tryd.ntmps99
    go_wp2_with fail
    go_ret
    exact ⟨ret_i HC.out.symm, hB1⟩
  · by_cases h3 : 0 < x.items.length ∧ deep = 0
    · have HC : Hid (CX = -1) := Lib.hid (by rw [← hCX]; refine fits_bad ?_; rw [hiff]; omega)
      obtain ⟨h4, rfl⟩ := h3
      clear hCX hiff
      go_enter Tryd.func99, Tryd.ntmps99
      go_wp2_with fail
      go_ret
      exact ⟨ret_i HC.out.symm, hB1⟩
    · have cs : (¬ 0 < x.items.length) ∨ (0 < x.items.length ∧ (deep == 0) = false) := by
        by_cases h0 : 0 < x.items.length
        · exact .inr ⟨h0, by simp; omega⟩
        · exact .inl h0
      have hdl : 0 < x.items.length → 1 ≤ deep := by omega
      have HDL := Lib.hid hdl
      clear hdl h3
      by_cases h2 : most < x.items.length
      · have HC : Hid (CX = -1) := Lib.hid (by rw [← hCX]; refine fits_bad ?_; rw [hiff]; unfold okInL; omega)
        clear hCX hiff
        rcases cs with c1 | ⟨c1, c2⟩
        · exfalso
          omega
        · go_enter Tryd.func99, Tryd.ntmps99
          go_wp2_with fail
          go_ret
          exact ⟨ret_i HC.out.symm, hB1⟩
      · have HIFF := Lib.hid hiff
        have HCX := Lib.hid hCX
        clear hCX hiff
        rcases cs with c1 | ⟨c1, c2⟩
        all_goals
          go_enter Tryd.func99, Tryd.ntmps99
          go_wp2_with fail
          have hw1 := Lib.hid hw1
          go_loopw [7, 33] (fun a b wr => ∃ i N : Nat, a = .int .i64 N ∧ b = .int .i64 i ∧ i ≤ x.items.length ∧ Hid (N = 1 + V.sizes (x.items.take i)) ∧ (N : Int) ≤ most ∧ Hid (okInL (x.items.take i) (deep - 1) (most - 1)) ∧ Below w1.heap.size w1 wr) (fun _ b _ => x.items.length - (intOf b).toNat)
          case atStart => exact ⟨0, 1, rfl, rfl, by omega, Lib.hid (by simp [V.sizes]), by omega, Lib.hid (okInL_zero _ (by omega)), Below.refl _ _⟩
          case round =>
            obtain ⟨i, N, rfl, rfl, hi, hN, hNm, hOI, hbr⟩ := hrel
            clear c1
            have hf := below_then hB1 hB1.size hbr
            have hA' := hA.below hf
            have r0 := cellB hbr a0
            have r1 := cellB hbr a1
            have r2 := cellB hbr a2
            have r3 := cellB hbr a3
            have hsr : w.heap.size < wr.heap.size := by have := hbr.size; omega
            clear a0 a1 a2 a3 hA
            by_cases hlt : i < x.items.length
            · have hdp : 1 ≤ deep := HDL.out (by omega)
              obtain ⟨ad, A1, cap1, rfl, hla, hbd, f0, f1, f2, f3, hl, hLA⟩ := hA'.at i hlt
              have hX := IsV.mk hbd hl hLA
              have HK := fun (w' : World) (hb' : Below wr.heap.size wr w') => IH.out _ (itemAt_mem hlt) (deep - 1) (most - N) _ w' S (hX.below hb') (by omega) (by omega) (by omega) (by omega)
              have htk := okInL_take hlt (deep - 1) (most - 1)
              have hst := sizes_take hlt
              by_cases hok : okIn (itemAt x.items i) (deep - 1) (most - N)
              · have e : fitsV (itemAt x.items i) (deep - 1) (most - N) = ((V.size (itemAt x.items i) : Nat) : Int) := by unfold fitsV; rw [if_pos hok]
                rw [e] at HK
                have hpos := V.size_pos (itemAt x.items i)
                have hle : (V.size (itemAt x.items i) : Int) ≤ most - N := hok.2.2
                have HN2 : Hid (N + V.size (itemAt x.items i) = 1 + V.sizes (x.items.take (i + 1))) := Lib.hid (by rw [hst]; have := hN.out; omega)
                have HO2 : Hid (okInL (x.items.take (i + 1)) (deep - 1) (most - 1)) := Lib.hid (htk.2 ⟨⟨hOI.out.1, hOI.out.2.1, by have := hN.out; omega⟩, by
                  have h5 : most - 1 - (V.sizes (x.items.take i) : Int) = most - N := by have := hN.out; omega
                  rw [h5]; exact hok⟩)
                have HK := Lib.hid HK
                clear e hok htk hst
                go_wp2_with (go_at_call 99; refine (HK.out _ ((Below.refl _ _).alloc (Nat.le_refl _) _)).mono ?_; rintro e w3 ⟨rfl, hb3⟩)
                go_roundw
                case rel => exact ⟨i + 1, N + V.size (itemAt x.items i), by go_num, by go_num, by omega, HN2, by omega, HO2, below_then hbr hbr.size (below_then ((Below.refl _ _).alloc (Nat.le_refl _) _) (by simp) hb3)⟩
                case measure => simp [intOf]; omega
              · have e : fitsV (itemAt x.items i) (deep - 1) (most - N) = -1 := fits_bad hok
                rw [e] at HK
                have HC : Hid (CX = -1) := Lib.hid (by
                  rw [← HCX.out]
                  refine fits_bad ?_
                  rw [HIFF.out]
                  rintro ⟨_, _, h6, _⟩
                  have h7 := (htk.1 (okInL_prefix h6)).2
                  have h5 : most - 1 - (V.sizes (x.items.take i) : Int) = most - N := by have := hN.out; omega
                  rw [h5] at h7
                  exact hok h7)
                have HK := Lib.hid HK
                clear e hok htk hst
                go_wp2_with (go_at_call 99; refine (HK.out _ ((Below.refl _ _).alloc (Nat.le_refl _) _)).mono ?_; rintro e w3 ⟨rfl, hb3⟩)
                go_ret
                exact ⟨ret_i HC.out.symm, below_then hf hf.size (below_then ((Below.refl _ _).alloc (Nat.le_refl _) _) (by simp) hb3)⟩
            · have he : i = x.items.length := by omega
              have HF := refown_calls x _ wr S (HX.out.below hf)
              have HE := Lib.hid he
              clear he
              cases hfo : okB x with
              | true =>
                rw [hfo] at HF
                have HF := Lib.hid HF
                have HC : Hid (CX = N) := Lib.hid (by
                  rw [← HCX.out]
                  unfold fitsV
                  have h8 := hOI.out
                  rw [HE.out, okInL_all] at h8
                  have h9 := hN.out
                  rw [HE.out, List.take_length] at h9
                  rw [if_pos (HIFF.out.2 ⟨hfo, (by by_cases h0 : 0 < x.items.length; exact .inr (by have := HDL.out h0; omega); exact .inl (by omega)), h8, by omega⟩), size_eq, h9])
                clear hfo
                go_wp2_with (go_at_call 111; refine HF.out.mono ?_; rintro e w3 ⟨rfl, hb3⟩)
                go_ret
                exact ⟨ret_i HC.out.symm, below_then hf hf.size hb3⟩
              | false =>
                rw [hfo] at HF
                have HF := Lib.hid HF
                have HC : Hid (CX = -1) := Lib.hid (by
                  rw [← HCX.out]
                  refine fits_bad ?_
                  rw [HIFF.out, hfo]
                  simp)
                clear hfo
                go_wp2_with (go_at_call 111; refine HF.out.mono ?_; rintro e w3 ⟨rfl, hb3⟩)
                go_ret
                exact ⟨ret_i HC.out.symm, below_then hf hf.size hb3⟩

theorem rightref_calls (x : V) (vx : Value) (w : World) (S : Nat → Prop) (hx : IsV w S x vx) :
    Calls Tryd.prog 66 #[vx] w fun e w' => e = .returned (.bool (rightB x)) ∧ Below w.heap.size w w' := by
  obtain ⟨hbx, A, ca, rfl, hca, hA⟩ := hx.eq
  obtain ⟨w1, hw1, hB1, hsz, hb0⟩ := box1 w (.int .i64 x.kind) (.int .i64 x.num) (.string x.text) (.slice A x.items.length ca) 33
  obtain ⟨a0, a1, a2, a3⟩ := block4 hb0
  clear hb0
  have HC := Lib.hid (fits_calls x 16 1024 _ w1 S (hx.below hB1) (by omega) (by omega) (by omega) (by omega))
  clear hx
  have HR := Lib.hid (rightB_fits x)
  go_enter Tryd.func66, Tryd.ntmps66
  go_wp2_with (go_at_call 99; refine HC.out.mono ?_; rintro e w2 ⟨rfl, hb2⟩)
  go_ret
  exact ⟨ret_b HR.out, below_then hB1 hB1.size hb2⟩

set_option maxRecDepth 100000 in
theorem listed_calls (l : List V) (vl : Value) (w : World) (S : Nat → Prop) (hl : IsS w S l vl) :
    Calls Tryd.prog 14 #[vl] w fun e w' => e = .returned (.int .i64 (listE l)) ∧ Below w.heap.size w w' := by
  obtain ⟨A, ca, rfl, hca, hla, hA⟩ := hl
  obtain ⟨EL, hEL⟩ : ∃ e, listE l = e := ⟨_, rfl⟩
  rw [hEL]
  have HEL := Lib.hid hEL
  clear hEL
  by_cases h1 : 65536 < l.length
  · have HE : Hid (EL = 2) := Lib.hid (by rw [← HEL.out, listE, if_pos h1])
    have h2 : (65536 : Int) < l.length := by omega
    go_enter Tryd.func14, Tryd.ntmps14
    go_wp2_with fail
    go_ret
    exact ⟨ret_i HE.out.symm, Below.refl _ _⟩
  · have h2 : ¬ (65536 : Int) < l.length := by omega
    have H1 := Lib.hid h1
    clear h1
    go_enter Tryd.func14, Tryd.ntmps14
    go_wp2_with fail
    clear h2
    go_loopw [10] (fun v wr => ∃ i : Nat, v = .int .i64 i ∧ i ≤ l.length ∧ Hid (rightsB (l.take i) = true) ∧ Below w.heap.size w wr) (fun v _ => l.length - (intOf v).toNat)
    case atStart => exact ⟨0, rfl, by omega, Lib.hid (by rw [List.take_zero]; rfl), Below.refl _ _⟩
    case round =>
      obtain ⟨i, rfl, hi, hr, hf⟩ := hrel
      have hA' := hA.below hf
      clear hA
      by_cases hlt : i < l.length
      · obtain ⟨ad, A1, cap1, rfl, hla', hbd, f0, f1, f2, f3, hcap, hLA⟩ := hA'.at i hlt
        have hX := IsV.mk hbd hcap hLA
        have HK := fun (w' : World) (hb' : Below wr.heap.size wr w') => rightref_calls (itemAt l i) _ w' S (hX.below hb')
        have htk := rightsB_take hlt
        cases hx : rightB (itemAt l i) with
        | true =>
          have HR : Hid (rightsB (l.take (i + 1)) = true) := Lib.hid (by rw [htk, hr.out, hx]; rfl)
          rw [hx] at HK
          have HK := Lib.hid HK
          clear htk hx
          go_wp2_with (go_at_call 66; refine (HK.out _ ((Below.refl _ _).alloc (Nat.le_refl _) _)).mono ?_; rintro e w3 ⟨rfl, hb3⟩)
          go_roundw
          case rel => exact ⟨i + 1, by go_num, by omega, HR, below_then hf hf.size (below_then ((Below.refl _ _).alloc (Nat.le_refl _) _) (by simp) hb3)⟩
          case measure => simp [intOf]; omega
        | false =>
          have HE : Hid (EL = 3) := Lib.hid (by rw [← HEL.out, listE, if_neg H1.out, rightsB_false hlt hx]; rfl)
          rw [hx] at HK
          have HK := Lib.hid HK
          clear htk hx
          go_wp2_with (go_at_call 66; refine (HK.out _ ((Below.refl _ _).alloc (Nat.le_refl _) _)).mono ?_; rintro e w3 ⟨rfl, hb3⟩)
          go_ret
          exact ⟨ret_i HE.out.symm, below_then hf hf.size (below_then ((Below.refl _ _).alloc (Nat.le_refl _) _) (by simp) hb3)⟩
      · have HE : Hid (EL = 0) := Lib.hid (by
          have he : i = l.length := by omega
          have := hr.out
          rw [he, List.take_length] at this
          rw [← HEL.out, listE, if_neg H1.out, if_pos this])
        go_wp2_with fail
        go_ret
        exact ⟨ret_i HE.out.symm, hf⟩
end Go.Proofs.YtjjbhnkplbjfeaaDoor

/- Numbers as values; lists as values. -/
set_option linter.unusedVariables false
set_option linter.unusedSimpArgs false
namespace Go.Proofs.YtjjbhnkplbjfeaaDoor
open Go.RowKit Go.Shelf
attribute [local go_sem] lt_succ_of

/-- A number as a value. -/
def V.int (n : Int) : V := .mk 2 n ⟨#[]⟩ []
def V.list (l : List V) : V := .mk 4 0 ⟨#[]⟩ l
theorem int_bd {n : Int} (h0 : -9223372036854775808 ≤ n) (h1 : n ≤ 9223372036854775807) : V.Bd (V.int n) := ⟨by simp [V.int, V.kind], by simp [V.int, V.kind], h0, h1, Nat.zero_le _, by simp [V.int, V.items]⟩
theorem zero_bd : V.Bd V.zero := ⟨by simp [V.zero, V.kind], by simp [V.zero, V.kind], by simp [V.zero, V.num], by simp [V.zero, V.num], Nat.zero_le _, by simp [V.zero, V.items]⟩
theorem int_vc (w : World) (S : Nat → Prop) {n : Int} (h0 : -9223372036854775808 ≤ n) (h1 : n ≤ 9223372036854775807) : VC w S (V.int n) [.int .i64 2, .int .i64 n, .string ⟨#[]⟩, .slice none 0 0] :=
  VC.mk (x := V.int n) (cap := 0) (A := none) (int_bd h0 h1) (by simp [V.int, V.items]) (.inl rfl)
theorem int_is (w : World) (S : Nat → Prop) {n : Int} (h0 : -9223372036854775808 ≤ n) (h1 : n ≤ 9223372036854775807) : IsV w S (V.int n) (.agg #[.int .i64 2, .int .i64 n, .string ⟨#[]⟩, .slice none 0 0]) :=
  IsV.mk (x := V.int n) (cap := 0) (A := none) (int_bd h0 h1) (by simp [V.int, V.items]) (.inl rfl)
theorem zero_is (w : World) (S : Nat → Prop) : IsV w S V.zero (.agg #[.int .i64 0, .int .i64 0, .string ⟨#[]⟩, .slice none 0 0]) :=
  IsV.mk (x := V.zero) (cap := 0) (A := none) zero_bd (by simp [V.zero, V.items]) (.inl rfl)
theorem int_calls (n : Int) (w : World) : Calls Tryd.prog 67 #[.int .i64 n] w fun e w' => e = .returned (.agg #[.int .i64 2, .int .i64 n, .string ⟨#[]⟩, .slice none 0 0]) ∧ Below w.heap.size w w' := by
  go_enter Tryd.func67, Tryd.ntmps67
  go_wp2_with fail
  refine bodyPost_ret (v := .agg #[.int .i64 2, .int .i64 n, .string ⟨#[]⟩, .slice none 0 0]) (by simp [results, Tryd.results67, go_sem]) rfl ⟨rfl, ?_⟩
  exact (Below.refl _ _).alloc (Nat.le_refl _) _

/-- A slice of numbers. -/
def IsI (w : World) (ns : List Int) (v : Value) : Prop := ∃ A cap, v = .slice A ns.length cap ∧ ns.length ≤ cap ∧ ns.length ≤ 4294967296 ∧ (∀ i, i < ns.length → ∃ ad, A = some ad ∧ w.cell? (ad.add i) = some (.int .i64 (ns.getD i 0))) ∧ ∀ n ∈ ns, -9223372036854775808 ≤ n ∧ n ≤ 9223372036854775807
def numAt (ns : List Int) (i : Nat) : Int := ns.getD i 0
theorem numAt_take {l : List Int} {i : Nat} (h : i < l.length) : l.take (i + 1) = l.take i ++ [numAt l i] := by
  rw [List.take_succ_eq_append_getElem h]
  simp [numAt, List.getD_eq_getElem?_getD, List.getElem?_eq_getElem h]
theorem numAt_mem {l : List Int} {i : Nat} (h : i < l.length) : numAt l i ∈ l := by
  simp [numAt, List.getD_eq_getElem?_getD, List.getElem?_eq_getElem h]
set_option maxRecDepth 100000 in
theorem ints_calls (ns : List Int) (v : Value) (w : World) (h : IsI w ns v) :
    Calls Tryd.prog 68 #[v] w fun e w' => ∃ r, e = .returned r ∧ IsS w' (fun b => w.heap.size ≤ b) (ns.map V.int) r ∧ Below w.heap.size w w' := by
  obtain ⟨A, cap, rfl, hcap, hlen, hcell, hbd⟩ := h
  have HC := Lib.hid hcell
  have HB := Lib.hid hbd
  clear hcell hbd
  go_enter Tryd.func68, Tryd.ntmps68
  go_wp2_with fail
  go_loopw [3, 8] (fun a b wr => ∃ (i : Nat) (L : List V), b = .int .i64 i ∧ i ≤ ns.length ∧ Hid (L = (ns.take i).map V.int) ∧ Hid (OwnL wr w.heap.size (fun b => w.heap.size ≤ b) L a) ∧ Below w.heap.size w wr) (fun _ b _ => ns.length - (intOf b).toNat)
  case atStart => exact ⟨0, [], rfl, by omega, Lib.hid rfl, Lib.hid (OwnL.nil _ _ _), Below.refl _ _⟩
  case round =>
    obtain ⟨i, L, rfl, hi, hL, hO, hf⟩ := hrel
    obtain ⟨A1, c1, he, hlc⟩ := hO.out.form
    subst he
    have hll : L.length ≤ 4294967296 := by rw [hL.out]; simp; omega
    by_cases hlt : i < ns.length
    · obtain ⟨ad, rfl, hc⟩ := HC.out i hlt
      have hc2 : wr.cell? (ad.add i) = some (.int .i64 (numAt ns i)) := cellB hf hc
      clear hc
      have hsz := hf.size
      have HBN := Lib.hid (HB.out _ (numAt_mem hlt))
      go_wp2_with (first | (go_at_call 67; refine (int_calls _ _).mono ?_; rintro e w3 ⟨rfl, hb3⟩; have hb4 := below_then hf hf.size hb3; have hO3 := Lib.hid (hO.out.below hb3); have hB3 := hb4.size) | (at_builtin; refine append_one w.heap.size (fun b => w.heap.size ≤ b) rfl _ _ rfl (.slice A1 L.length c1) L (V.int (numAt ns i)) _ _ _ _ rfl rfl hO3.out (int_vc _ _ HBN.out.1 HBN.out.2) hB3 hll ?_; intro v1 w4 hO4 hg4; have hO5 := Lib.hid hO4; clear hO4))
      go_roundw
      case rel => exact ⟨i + 1, L ++ [V.int (numAt ns i)], by go_num, by omega, Lib.hid (by rw [hL.out, numAt_take hlt]; simp), hO5, hb4.grown hg4 hB3 (fun k hk => (hO3.out.own_lt k hk).1)⟩
      case measure => simp [intOf]; omega
    · have H : Hid (IsS wr (fun b => w.heap.size ≤ b) (ns.map V.int) (.slice A1 L.length c1)) := Lib.hid (by
        have h1 := hO.out.is (S' := fun b => w.heap.size ≤ b) (fun _ h => h) (fun _ h => h) hll
        have h2 : L = ns.map V.int := by rw [hL.out, List.take_of_length_le (by omega)]
        rw [h2] at h1 ⊢
        exact h1)
      go_wp2_with fail
      go_ret
      exact ⟨_, rfl, H.out, hf⟩

/-- A list as a value; what is wrong with it. -/
def listV (l : List V) : V × Int := if listE l = 0 then (if rightB (V.list l) = true then (V.list l, 0) else (V.zero, 2)) else (V.zero, listE l)
theorem list_bd {l : List V} (h : l.length ≤ 4294967296) : V.Bd (V.list l) := ⟨by simp [V.list, V.kind], by simp [V.list, V.kind], by simp [V.list, V.num], by simp [V.list, V.num], Nat.zero_le _, h⟩
theorem list_is {w : World} {S : Nat → Prop} {l : List V} {A : Option Addr} {cap : Nat} (hl : l.length ≤ 4294967296) (hc : l.length ≤ cap) (h : LA w S l A) : IsV w S (V.list l) (.agg #[.int .i64 4, .int .i64 0, .string ⟨#[]⟩, .slice A l.length cap]) :=
  IsV.mk (x := V.list l) (list_bd hl) hc h
set_option maxRecDepth 100000 in
theorem made_calls (l : List V) (vl : Value) (w : World) (S : Nat → Prop) (hl : IsS w S l vl) (hT : Lib.Utf8Tabs 1 2 w) :
    Calls Tryd.prog 107 #[.int .i64 4, vl] w fun e w' => ∃ v, e = .returned (.tuple #[v, .int .i64 (if rightB (V.list l) = true then 0 else 2)]) ∧ IsV w' (fun b => w.heap.size ≤ b) (if rightB (V.list l) = true then V.list l else V.zero) v ∧ Below w.heap.size w w' := by
  obtain ⟨A, ca, rfl, hca, hla, hA⟩ := hl
  obtain ⟨w1, hw1, hB1, hsz, hb0, hb1⟩ := boxes2 w (.int .i64 0) (.int .i64 0) (.string ⟨#[]⟩) (.slice none 0 0) (.int .i64 4) (.int .i64 0) (.string ⟨#[]⟩) (.slice A l.length ca) 33
  have hX := list_is hla hca hA
  have HR := right_calls _ _ w1 S (hX.below hB1) (tabs_below hT hB1)
  have HO := fun (w' : World) (hb' : Below w1.heap.size w1 w') => own_calls _ _ w' S (hX.below (below_then hB1 hB1.size hb'))
  have HO := Lib.hid HO
  clear hX hT
  obtain ⟨a0, a1, a2, a3⟩ := block4 hb1
  obtain ⟨e0, e1, e2, e3⟩ := block4 hb0
  have HB0 := Lib.hid hb0
  clear hb0 hb1
  cases hr : rightB (V.list l) with
  | true =>
    rw [hr] at HR
    have HR := Lib.hid HR
    clear hr
    rw [if_pos rfl, if_pos rfl]
    go_enter Tryd.func107, Tryd.ntmps107
    go_wp2_with (first | (go_at_call 92; refine HR.out.mono ?_; rintro e w2 ⟨rfl, hb2⟩; have a0' := cellB hb2 a0; have a1' := cellB hb2 a1; have a2' := cellB hb2 a2; have a3' := cellB hb2 a3; clear a0 a1 a2 a3) | (go_at_call 65; refine (HO.out _ hb2).mono ?_; rintro e w3 ⟨v, rfl, hv, hb3⟩; obtain ⟨hbv, A2, cap2, rfl, hc2, hLA2⟩ := hv.eq; have f0 := cellB hb3 (cellB hb2 e0); have f1 := cellB hb3 (cellB hb2 e1); have f2 := cellB hb3 (cellB hb2 e2); have f3 := cellB hb3 (cellB hb2 e3); have fz := free4 (blockB hb3 (blockB hb2 HB0.out)); clear e0 e1 e2 e3))
    refine bodyPost_ret (v := .tuple #[.agg #[.int .i64 (V.list l).kind, .int .i64 (V.list l).num, .string (V.list l).text, .slice A2 (V.list l).items.length cap2], .int .i64 0]) (by simp [results, Tryd.results107, go_sem, f0, f1, f2, f3]) rfl ⟨_, rfl, ?_, ?_⟩
    · have hn : ∀ b, b < w2.heap.size → ¬ (fun b => w2.heap.size ≤ b) b := fun b h (h' : w2.heap.size ≤ b) => by omega
      have hs2 := hb2.size
      refine (IsV.keep (S' := fun b => w2.heap.size ≤ b) ?_ hv).keep (Keeps.weak fun b (h : w2.heap.size ≤ b) => show w.heap.size ≤ b by omega)
      repeat refine Keeps.set_after ?_ (hn _ (by simp; omega)) _
      exact Keeps.refl _ _
    · repeat refine Below.setCell ?_ (by simp) _
      exact below_then hB1 hB1.size (below_then hb2 hb2.size hb3)
  | false =>
    rw [hr] at HR
    have HR := Lib.hid HR
    clear hr
    rw [if_neg (by decide), if_neg (by decide)]
    go_enter Tryd.func107, Tryd.ntmps107
    go_wp2_with (go_at_call 92; refine HR.out.mono ?_; rintro e w2 ⟨rfl, hb2⟩; have f0 := cellB hb2 e0; have f1 := cellB hb2 e1; have f2 := cellB hb2 e2; have f3 := cellB hb2 e3; have fz := free4 (blockB hb2 HB0.out); clear e0 e1 e2 e3)
    refine bodyPost_ret (v := .tuple #[.agg #[.int .i64 0, .int .i64 0, .string ⟨#[]⟩, .slice none 0 0], .int .i64 2]) (by simp [results, Tryd.results107, go_sem, f0, f1, f2, f3]) rfl ⟨_, rfl, zero_is _ _, ?_⟩
    repeat refine Below.setCell ?_ (by simp) _
    exact below_then hB1 hB1.size hb2
end Go.Proofs.YtjjbhnkplbjfeaaDoor

/- Lists as values. -/
set_option linter.unusedVariables false
set_option linter.unusedSimpArgs false
namespace Go.Proofs.YtjjbhnkplbjfeaaDoor
open Go.RowKit Go.Shelf
attribute [local go_sem] lt_succ_of

set_option maxRecDepth 100000 in
theorem list_calls (l : List V) (vl : Value) (w : World) (S : Nat → Prop) (hl : IsS w S l vl) (hT : Lib.Utf8Tabs 1 2 w) :
    Calls Tryd.prog 80 #[vl] w fun e w' => ∃ v, e = .returned (.tuple #[v, .int .i64 (listV l).2]) ∧ IsV w' (fun b => w.heap.size ≤ b) (listV l).1 v ∧ Below w.heap.size w w' := by
  obtain ⟨w1, hw1, hB1, hsz, hb0⟩ := box1 w (.int .i64 0) (.int .i64 0) (.string ⟨#[]⟩) (.slice none 0 0) 33
  have HV := values_calls l vl w1 S (hl.below hB1) (tabs_below hT hB1)
  have HM := fun (w' : World) (hb' : Below w1.heap.size w1 w') => made_calls l vl w' S (hl.below (below_then hB1 hB1.size hb')) (tabs_below hT (below_then hB1 hB1.size hb'))
  have HM := Lib.hid HM
  obtain ⟨A, ca, rfl, hca, hla, hA⟩ := hl
  clear hT hA
  obtain ⟨e0, e1, e2, e3⟩ := block4 hb0
  have HB0 := Lib.hid hb0
  clear hb0
  by_cases h0 : listE l = 0
  · have hl2 : listV l = if rightB (V.list l) = true then (V.list l, 0) else (V.zero, 2) := by unfold listV; rw [if_pos h0]
    obtain ⟨X, hX⟩ : ∃ X, (if rightB (V.list l) = true then V.list l else V.zero) = X := ⟨_, rfl⟩
    obtain ⟨E, hE⟩ : ∃ E : Int, (if rightB (V.list l) = true then 0 else 2) = E := ⟨_, rfl⟩
    have hl3 : listV l = (X, E) := by rw [hl2, ← hX, ← hE]; split <;> rfl
    rw [hX, hE] at HM
    rw [hl3]
    rw [h0] at HV
    have HV := Lib.hid HV
    clear h0 hl2 hl3 hX hE
    go_enter Tryd.func80, Tryd.ntmps80
    go_wp2_with (first | (go_at_call 62; refine HV.out.mono ?_; rintro e w2 ⟨rfl, hb2⟩) | (go_at_call 107; refine (HM.out _ hb2).mono ?_; rintro e w3 ⟨v, rfl, hv, hb3⟩; obtain ⟨hbv, A2, cap2, rfl, hc2, hLA2⟩ := hv.eq; have f0 := cellB hb3 (cellB hb2 e0); have f1 := cellB hb3 (cellB hb2 e1); have f2 := cellB hb3 (cellB hb2 e2); have f3 := cellB hb3 (cellB hb2 e3); have fz := free4 (blockB hb3 (blockB hb2 HB0.out)); clear e0 e1 e2 e3))
    refine bodyPost_ret (v := .tuple #[.agg #[.int .i64 X.kind, .int .i64 X.num, .string X.text, .slice A2 X.items.length cap2], .int .i64 E]) (by simp [results, Tryd.results80, go_sem, f0, f1, f2, f3]) rfl ⟨_, rfl, ?_, ?_⟩
    · have hn : ∀ b, b < w2.heap.size → ¬ (fun b => w2.heap.size ≤ b) b := fun b h (h' : w2.heap.size ≤ b) => by omega
      have hs2 := hb2.size
      refine (IsV.keep (S' := fun b => w2.heap.size ≤ b) ?_ hv).keep (Keeps.weak fun b (h : w2.heap.size ≤ b) => show w.heap.size ≤ b by omega)
      repeat refine Keeps.set_after ?_ (hn _ (by simp; omega)) _
      exact Keeps.refl _ _
    · repeat refine Below.setCell ?_ (by simp) _
      exact below_then hB1 hB1.size (below_then hb2 hb2.size hb3)
  · have hl2 : listV l = (V.zero, listE l) := by unfold listV; rw [if_neg h0]
    have h1 : (listE l != 0) = true := by simpa using h0
    rw [hl2]
    have HV := Lib.hid HV
    clear h0 hl2
    go_enter Tryd.func80, Tryd.ntmps80
    go_wp2_with (go_at_call 62; refine HV.out.mono ?_; rintro e w2 ⟨rfl, hb2⟩; have f0 := cellB hb2 e0; have f1 := cellB hb2 e1; have f2 := cellB hb2 e2; have f3 := cellB hb2 e3; have fz := free4 (blockB hb2 HB0.out); clear e0 e1 e2 e3)
    refine bodyPost_ret (v := .tuple #[.agg #[.int .i64 0, .int .i64 0, .string ⟨#[]⟩, .slice none 0 0], .int .i64 (listE l)]) (by simp [results, Tryd.results80, go_sem, f0, f1, f2, f3]) rfl ⟨_, rfl, zero_is _ _, ?_⟩
    repeat refine Below.setCell ?_ (by simp) _
    exact below_then hB1 hB1.size hb2

set_option maxRecDepth 100000 in
theorem told_calls (x : V) (vx : Value) (w : World) (S : Nat → Prop) (hx : IsV w S x vx) :
    Calls Tryd.prog 81 #[vx] w fun e w' => ∃ v, e = .returned (.tuple #[v, .int .i64 (if rightB x = true then 0 else 2)]) ∧ IsV w' S (if rightB x = true then x else V.zero) v ∧ Below w.heap.size w w' := by
  obtain ⟨hbx, A, ca, rfl, hca, hA⟩ := hx.eq
  obtain ⟨w1, hw1, hB1, hsz, hb1, hb0⟩ := boxes2 w (.int .i64 x.kind) (.int .i64 x.num) (.string x.text) (.slice A x.items.length ca) (.int .i64 0) (.int .i64 0) (.string ⟨#[]⟩) (.slice none 0 0) 33
  have HR := rightref_calls _ _ w1 S (hx.below hB1)
  obtain ⟨a0, a1, a2, a3⟩ := block4 hb1
  obtain ⟨e0, e1, e2, e3⟩ := block4 hb0
  have HB0 := Lib.hid hb0
  clear hb0 hb1
  cases hr : rightB x with
  | true =>
    rw [hr] at HR
    have HR := Lib.hid HR
    have HX := Lib.hid hx
    have HA := Lib.hid hA
    clear hr hx hA
    rw [if_pos rfl, if_pos rfl]
    go_enter Tryd.func81, Tryd.ntmps81
    go_wp2_with (go_at_call 66; refine HR.out.mono ?_; rintro e w2 ⟨rfl, hb2⟩; have a0' := cellB hb2 a0; have a1' := cellB hb2 a1; have a2' := cellB hb2 a2; have a3' := cellB hb2 a3; have f0 := cellB hb2 e0; have f1 := cellB hb2 e1; have f2 := cellB hb2 e2; have f3 := cellB hb2 e3; have fz := free4 (blockB hb2 HB0.out); clear a0 a1 a2 a3 e0 e1 e2 e3)
    have hs2 := hb2.size
    refine bodyPost_ret (v := .tuple #[.agg #[.int .i64 x.kind, .int .i64 x.num, .string x.text, .slice A x.items.length ca], .int .i64 0]) (by simp [results, Tryd.results81, go_sem, f0, f1, f2, f3]) rfl ⟨_, rfl, ?_, ?_⟩
    · have hB2 := below_then hB1 hB1.size hb2
      refine HX.out.keep ?_
      intro b hb hs
      refine ⟨hs, ?_⟩
      refine Eq.trans ?_ (hB2.block b hb)
      repeat (refine Eq.trans (Below.heap_setCell _ _ _ _ (by simp; omega)) ?_)
      rfl
    · repeat refine Below.setCell ?_ (by simp) _
      exact below_then hB1 hB1.size hb2
  | false =>
    rw [hr] at HR
    have HR := Lib.hid HR
    clear hr hx hA
    rw [if_neg (by decide), if_neg (by decide)]
    go_enter Tryd.func81, Tryd.ntmps81
    go_wp2_with (go_at_call 66; refine HR.out.mono ?_; rintro e w2 ⟨rfl, hb2⟩; have f0 := cellB hb2 e0; have f1 := cellB hb2 e1; have f2 := cellB hb2 e2; have f3 := cellB hb2 e3; have fz := free4 (blockB hb2 HB0.out); clear e0 e1 e2 e3)
    refine bodyPost_ret (v := .tuple #[.agg #[.int .i64 0, .int .i64 0, .string ⟨#[]⟩, .slice none 0 0], .int .i64 2]) (by simp [results, Tryd.results81, go_sem, f0, f1, f2, f3]) rfl ⟨_, rfl, zero_is _ _, ?_⟩
    repeat refine Below.setCell ?_ (by simp) _
    exact below_then hB1 hB1.size hb2

set_option maxRecDepth 100000 in
theorem reflist_calls (l : List V) (vl : Value) (w : World) (S : Nat → Prop) (hl : IsS w S l vl) :
    Calls Tryd.prog 36 #[vl] w fun e w' => ∃ v, e = .returned (.tuple #[v, .int .i64 (listV l).2]) ∧ IsV w' S (listV l).1 v ∧ Below w.heap.size w w' := by
  obtain ⟨w1, hw1, hB1, hsz, hb0⟩ := box1 w (.int .i64 0) (.int .i64 0) (.string ⟨#[]⟩) (.slice none 0 0) 33
  have HV := listed_calls l vl w1 S (hl.below hB1)
  obtain ⟨A, ca, rfl, hca, hla, hA⟩ := hl
  have hX := list_is hla hca (LA.keep (S' := fun b => S b ∧ b < w.heap.size) (fun b hb hs => ⟨⟨hs, hb⟩, rfl⟩) hA)
  have HM := fun (w' : World) (hb' : Below w1.heap.size w1 w') => told_calls _ _ w' (fun b => S b ∧ b < w.heap.size) (hX.below (below_then hB1 hB1.size hb'))
  have HM := Lib.hid HM
  clear hA hX
  obtain ⟨e0, e1, e2, e3⟩ := block4 hb0
  have HB0 := Lib.hid hb0
  clear hb0
  by_cases h0 : listE l = 0
  · have hl2 : listV l = if rightB (V.list l) = true then (V.list l, 0) else (V.zero, 2) := by unfold listV; rw [if_pos h0]
    obtain ⟨X, hX⟩ : ∃ X, (if rightB (V.list l) = true then V.list l else V.zero) = X := ⟨_, rfl⟩
    obtain ⟨E, hE⟩ : ∃ E : Int, (if rightB (V.list l) = true then 0 else 2) = E := ⟨_, rfl⟩
    have hl3 : listV l = (X, E) := by rw [hl2, ← hX, ← hE]; split <;> rfl
    rw [hX, hE] at HM
    rw [hl3]
    rw [h0] at HV
    have HV := Lib.hid HV
    clear h0 hl2 hl3 hX hE
    go_enter Tryd.func36, Tryd.ntmps36
    go_wp2_with (first | (go_at_call 14; refine HV.out.mono ?_; rintro e w2 ⟨rfl, hb2⟩) | (go_at_call 81; refine (HM.out _ hb2).mono ?_; rintro e w3 ⟨v, rfl, hv, hb3⟩; obtain ⟨hbv, A2, cap2, rfl, hc2, hLA2⟩ := hv.eq; have f0 := cellB hb3 (cellB hb2 e0); have f1 := cellB hb3 (cellB hb2 e1); have f2 := cellB hb3 (cellB hb2 e2); have f3 := cellB hb3 (cellB hb2 e3); have fz := free4 (blockB hb3 (blockB hb2 HB0.out)); clear e0 e1 e2 e3))
    refine bodyPost_ret (v := .tuple #[.agg #[.int .i64 X.kind, .int .i64 X.num, .string X.text, .slice A2 X.items.length cap2], .int .i64 E]) (by simp [results, Tryd.results36, go_sem, f0, f1, f2, f3]) rfl ⟨_, rfl, ?_, ?_⟩
    · have hn : ∀ b, w.heap.size ≤ b → ¬ (fun b => S b ∧ b < w.heap.size) b := fun b h (h' : S b ∧ b < w.heap.size) => by omega
      refine (IsV.keep (S' := fun b => S b ∧ b < w.heap.size) ?_ hv).keep (Keeps.weak fun b h => h.1)
      repeat refine Keeps.set_after ?_ (hn _ (by simp)) _
      exact Keeps.refl _ _
    · repeat refine Below.setCell ?_ (by simp) _
      exact below_then hB1 hB1.size (below_then hb2 hb2.size hb3)
  · have hl2 : listV l = (V.zero, listE l) := by unfold listV; rw [if_neg h0]
    have h1 : (listE l != 0) = true := by simpa using h0
    rw [hl2]
    have HV := Lib.hid HV
    clear h0 hl2
    go_enter Tryd.func36, Tryd.ntmps36
    go_wp2_with (go_at_call 14; refine HV.out.mono ?_; rintro e w2 ⟨rfl, hb2⟩; have f0 := cellB hb2 e0; have f1 := cellB hb2 e1; have f2 := cellB hb2 e2; have f3 := cellB hb2 e3; have fz := free4 (blockB hb2 HB0.out); clear e0 e1 e2 e3)
    refine bodyPost_ret (v := .tuple #[.agg #[.int .i64 0, .int .i64 0, .string ⟨#[]⟩, .slice none 0 0], .int .i64 (listE l)]) (by simp [results, Tryd.results36, go_sem, f0, f1, f2, f3]) rfl ⟨_, rfl, zero_is _ _, ?_⟩
    repeat refine Below.setCell ?_ (by simp) _
    exact below_then hB1 hB1.size hb2
end Go.Proofs.YtjjbhnkplbjfeaaDoor
