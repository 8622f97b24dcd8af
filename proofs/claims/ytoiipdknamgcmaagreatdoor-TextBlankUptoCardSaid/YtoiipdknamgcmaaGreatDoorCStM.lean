/- value.Map. value.Map: the walk. -/
import Derived.Test.YtoiipdknamgcmaaGreatDoorCStJ
import Derived.Test.YtoiipdknamgcmaaGreatDoorCSoF
import Derived.Test.YtoiipdknamgcmaaGreatDoorCSoJ
import Derived.Test.YtoiipdknamgcmaaGreatDoorCPlA
/- value.Map. -/
set_option linter.unusedVariables false
set_option linter.unusedSimpArgs false
namespace Go.Proofs.YtoiipdknamgcmaaGreatDoor
open Go.RowKit Go.Shelf
attribute [local go_sem] lt_succ_of

section
variable {ops : Array Oper} {rest : List Oper} {o : Oper} {a : Act} {Q : Exit → Act → World → Prop}
/-- append(v, x, y), x and y in the block that has just been made. -/
theorem append_two {W : World} (base : Nat) (S : Nat → Prop) (hgd : o.guard = none) (s x : Operand) (ho : o.op = .call { callee := .builtin .append, args := #[s, x], argTypes := #[22, 22] })
    (v : Value) (l : List V) (y z : V) (c0 c1 c2 c3 e0 e1 e2 e3 : Value) (hs : a.eval s = v) (hx : a.eval x = .slice (some ⟨W.heap.size, 0, none⟩) 2 2) (HO : OwnL W base S l v) (hy : VC W (fun b => S b ∧ some b ≠ v.ownBlock) y [c0, c1, c2, c3]) (hz : VC W (fun b => S b ∧ some b ≠ v.ownBlock) z [e0, e1, e2, e3])
    (hbase : base ≤ W.heap.size) (hl : l.length ≤ 4294967296)
    (h : ∀ v1 w1, OwnL w1 base S (l ++ [y, z]) v1 → W.grownBy w1 v.ownBlock → wpList Tryz.prog ops Q rest (a.put o.dst v1) w1) :
    wpList Tryz.prog ops Q (o :: rest) a (W.alloc (.cells #[c0, c1, c2, c3, e0, e1, e2, e3] 24)) := by
  obtain ⟨i, hi, hz0, hz1, hz2⟩ := info_parts infoV
  obtain ⟨xs, hown, hcs⟩ := HO
  have hk : Keeps W (fun b => S b ∧ some b ≠ v.ownBlock) (W.alloc (.cells #[c0, c1, c2, c3, e0, e1, e2, e3] 24)) (fun b => S b ∧ some b ≠ v.ownBlock) := Keeps.alloc _
  have hone : ∀ u ∈ [c0, c1, c2, c3, e0, e1, e2, e3], u.oneCell' = true := by
    intro u hu
    have : u ∈ [c0, c1, c2, c3] ++ [e0, e1, e2, e3] := hu
    rcases List.mem_append.1 this with h | h
    · exact hy.one u h
    · exact hz.one u h
  refine wpList_append_own_at (W.alloc (.cells #[c0, c1, c2, c3, e0, e1, e2, e3] 24)) hgd s x 22 ho base 24 i _ 4 56 Tryz.underlying22 hi hz0 hz1 hz2 rfl (by decide) v l.length xs hs (hown.alloc _) ⟨W.heap.size, 0, none⟩ 2 2 [c0, c1, c2, c3, e0, e1, e2, e3] hx rfl
    (World.news_of_block (cs := #[c0, c1, c2, c3, e0, e1, e2, e3]) (heap_alloc_new W _)) hone (by simp only [maxLen]; omega) (by omega) (by simp; omega) ?_
  intro v1 w1 hown1 hg _ hat
  have hg' : W.grownBy w1 v.ownBlock := World.grownBy.trans (World.grownBy_alloc W _ _) hg
  exact h v1 w1 (own_after (hcs.keep hk) (m := [y, z]) ⟨[c0, c1, c2, c3], [e0, e1, e2, e3], rfl, hy.keep hk, ⟨[e0, e1, e2, e3], [], by simp, hz.keep hk, rfl⟩⟩ hg hat hown1) hg'
end
/-! ### The plain law -/
def StrictK (l : List (V × V)) : Prop := l.Pairwise fun a b => cmpV a.1 b.1 < 0
theorem strict_unique : ∀ a b : List (V × V), a.Perm b → StrictK a → SortedK b → a = b
  | [], b, h, _, _ => by rw [h.nil_eq]
  | x :: a, [], h, _, _ => by have := h.length_eq; simp at this
  | x :: a, y :: b, h, ha, hb => by
    rw [StrictK, List.pairwise_cons] at ha
    rw [SortedK, List.pairwise_cons] at hb
    have hxy : x = y := by
      have hx : x ∈ y :: b := h.mem_iff.1 List.mem_cons_self
      have hy : y ∈ x :: a := h.mem_iff.2 List.mem_cons_self
      rcases List.mem_cons.1 hx with e | hx
      · exact e
      rcases List.mem_cons.1 hy with e | hy
      · exact e.symm
      have h1 := ha.1 y hy
      have h2 := hb.1 x hx
      have h3 := cmpV_flip x.1 y.1
      omega
    subst hxy
    rw [strict_unique a b h.cons_inv ha.2 hb.2]
theorem insP_sorted (x : V × V) : ∀ l : List (V × V), SortedK l → SortedK (insP x l)
  | [], _ => by simp [insP, SortedK]
  | y :: l, h => by
    rw [SortedK, List.pairwise_cons] at h
    rw [insP]
    split
    · rename_i hc
      rw [SortedK, List.pairwise_cons]
      refine ⟨fun z hz => ?_, by rw [List.pairwise_cons]; exact h⟩
      rcases List.mem_cons.1 hz with rfl | hz
      · exact hc
      · exact (cmpV_tri x.1 y.1 z.1 hc (h.1 z hz)).1
    · rename_i hc
      rw [SortedK, List.pairwise_cons]
      refine ⟨fun z hz => ?_, insP_sorted x l h.2⟩
      rcases List.mem_cons.1 ((insP_perm x l).mem_iff.1 hz) with rfl | hz
      · have := cmpV_flip z.1 y.1; omega
      · exact h.1 z hz
theorem sortP_sorted : ∀ l : List (V × V), SortedK (sortP l)
  | [] => by simp [sortP, SortedK]
  | x :: l => by rw [sortP]; exact insP_sorted x _ (sortP_sorted l)
def NextK : List (V × V) → Prop
  | [] => True
  | [_] => True
  | x :: y :: t => cmpV x.1 y.1 < 0 ∧ NextK (y :: t)
theorem strict_of : ∀ l, NextK l → StrictK l
  | [], _ => List.Pairwise.nil
  | [x], _ => by simp [StrictK]
  | x :: y :: t, h => by
    have ih := strict_of (y :: t) h.2
    have ih2 := ih
    rw [StrictK, List.pairwise_cons] at ih2
    rw [StrictK, List.pairwise_cons]
    refine ⟨fun z hz => ?_, ih⟩
    rcases List.mem_cons.1 hz with rfl | hz
    · exact h.1
    · have h1 := cmpV_tri x.1 y.1 z.1
      unfold Tri at h1
      have h2 := h.1
      have h3 := ih2.1 z hz
      omega
theorem apart_tail {x y : V × V} {t : List (V × V)} (h : ApartK (x :: y :: t)) : cmpV y.1 x.1 ≠ 0 ∧ ApartK (y :: t) :=
  ⟨h 0 (by simp), fun i hi => h (i + 1) (by simpa using hi)⟩
theorem next_of : ∀ l, SortedK l → ApartK l → NextK l
  | [], _, _ => trivial
  | [_], _, _ => trivial
  | x :: y :: t, hs, ha => by
    obtain ⟨h1, h2⟩ := apart_tail ha
    rw [SortedK, List.pairwise_cons] at hs
    have h3 := hs.1 y List.mem_cons_self
    have h4 := cmpV_flip x.1 y.1
    exact ⟨by omega, next_of (y :: t) hs.2 h2⟩
theorem apart_of : ∀ l, NextK l → ApartK l
  | [], _ => fun i hi => by simp at hi
  | [_], _ => fun i hi => by simp at hi
  | x :: y :: t, h => fun i hi => by
    cases i with
    | zero =>
      have h1 := h.1
      have h2 := cmpV_flip x.1 y.1
      show cmpV y.1 x.1 ≠ 0
      omega
    | succ i => exact apart_of (y :: t) h.2 i (by simpa using hi)
theorem next_flat : ∀ l : List (V × V), (∀ j, 2 ≤ j → j % 2 = 0 → j < (flatP l).length → cmpV (itemAt (flatP l) (j - 2)) (itemAt (flatP l) j) < 0) → NextK l
  | [], _ => trivial
  | [_], _ => trivial
  | x :: y :: t, h => ⟨h 2 (Nat.le_refl _) rfl (by rw [flatP_len]; simp), next_flat (y :: t) fun j h1 h2 h3 => by
      have := h (j + 2) (by omega) (by omega) (by rw [flatP_len] at h3 ⊢; simp at h3 ⊢; omega)
      obtain ⟨i, rfl⟩ : ∃ i, j = i + 2 := ⟨j - 2, by omega⟩
      exact this⟩
theorem map_next {q : List (V × V)} (h : rightB (V.map (flatP q)) = true) : NextK q := by
  have h1 := right_all h
  rw [okAll_eq, Bool.and_eq_true] at h1
  have h2 := ((ok_6 0 _ (flatP q)).1 h1.1).2.2.2
  exact next_flat q fun j hj hm hl => asc_step2 (flatP q).length 2 (flatP q) (by omega) h2 j hj (by omega) hl
theorem map_nil_right : rightB (V.map []) = true := by
  unfold rightB
  rw [decide_eq_true_iff]
  refine ⟨?_, by simp [V.map, depthV, depthL], by simp [V.map, V.size, V.sizes]⟩
  rw [okAll_eq, Bool.and_eq_true]
  exact ⟨(ok_6 0 _ []).2 ⟨rfl, rfl, rfl, ascFrom_end (by simp)⟩, rfl⟩
/-- What value.Map says, as far as the reader asks. -/
def MapOk (l : List V) : Prop := listOk l = true ∧ rightB (V.map (flatP (sortP (pairsV l)))) = true
instance (l : List V) : Decidable (MapOk l) := by unfold MapOk; infer_instance
theorem mapR_eq (l : List V) (k : Nat) : mapR true l k = if MapOk l then .ok (V.map (flatP (sortP (pairsV l)))) else .bad 26 k := by
  unfold mapR
  rw [if_neg (by decide)]
  rfl
def mapX (ps : List (V × V)) : V := if rightB (V.kd 6 (flatP ps)) = true then V.kd 6 (flatP ps) else V.zero
theorem map_fin {l : List V} {ps' ps2 : List (V × V)} (hev : l.length % 2 = 0) (hp : ps'.Perm (pairsV l)) (hs : SortedK ps') (hok : listOk l = true) (hc : (ApartK ps' ∧ ps2 = ps') ∨ (¬ ApartK ps' ∧ ps2.length < ps'.length)) :
    (MapOk l ∧ mapX ps2 = V.map (flatP (sortP (pairsV l)))) ∨ (¬ MapOk l ∧ (mapX ps2).items.length < l.length) := by
  have hl : l.length = 2 * (pairsV l).length := by have := flatP_len (pairsV l); rw [flat_pairs l hev] at this; exact this
  have hl2 := hp.length_eq
  rcases hc with ⟨ha, rfl⟩ | ⟨ha, hlt⟩
  · have he : ps2 = sortP (pairsV l) := strict_unique _ _ (hp.trans (sortP_perm _).symm) (strict_of _ (next_of _ hs ha)) (sortP_sorted _)
    unfold mapX
    by_cases hr : rightB (V.kd 6 (flatP ps2)) = true
    · rw [if_pos hr]
      rw [he] at hr ⊢
      exact .inl ⟨⟨hok, hr⟩, rfl⟩
    · rw [if_neg hr]
      refine .inr ⟨fun h => hr (by rw [he]; exact h.2), ?_⟩
      show 0 < l.length
      rcases l with _ | ⟨x, l⟩
      · rw [he] at hr
        exact absurd map_nil_right hr
      · simp
  · refine .inr ⟨fun h => ha ?_, ?_⟩
    · have h1 := strict_unique _ ps' ((sortP_perm _).trans hp.symm) (strict_of _ (map_next h.2)) hs
      rw [← h1]
      exact apart_of _ (map_next h.2)
    · unfold mapX
      split
      · show (flatP ps2).length < l.length
        rw [flatP_len]
        omega
      · show 0 < l.length
        omega
theorem take_two {l : List V} {i : Nat} (h : 2 * i + 1 < l.length) : l.take (2 * (i + 1)) = l.take (2 * i) ++ [itemAt l (2 * i), itemAt l (2 * i + 1)] := by
  rw [show 2 * (i + 1) = 2 * i + 1 + 1 by omega, itemAt_take h, itemAt_take (by omega), List.append_assoc]
  rfl
end Go.Proofs.YtoiipdknamgcmaaGreatDoor

/- value.Map: the walk. -/
set_option linter.unusedVariables false
set_option linter.unusedSimpArgs false
namespace Go.Proofs.YtoiipdknamgcmaaGreatDoor
open Go.RowKit Go.Shelf
attribute [local go_sem] lt_succ_of

def MapC : Prop := ∀ (l : List V) (n : Nat) (vl : Value) (w : World) (S : Nat → Prop), IsSP w S l n vl → Tabs w → l.length ≤ 65536 →
  Calls Tryz.prog 57 #[vl] w fun e w' => ∃ v x er, e = .returned (.tuple #[v, .int .i64 er]) ∧ IsV w' (fun b => w.heap.size ≤ b) x v ∧ Below w.heap.size w w' ∧ ((MapOk l ∧ x = V.map (flatP (sortP (pairsV l)))) ∨ (¬ MapOk l ∧ x.items.length < l.length))
theorem pair_ok {l : List V} {n : Nat} (h : pairE l n = 0) (hl : l.length ≤ 65536) : listOk l = true ∧ n ≤ 65536 := by
  unfold pairE at h
  split at h
  · omega
  · split at h
    · rename_i h1 h2
      unfold listOk
      rw [Bool.and_eq_true]
      exact ⟨⟨decide_eq_true hl, h2⟩, by omega⟩
    · omega
theorem pair_bad {l : List V} {n : Nat} (h : pairE l n ≠ 0) (hl : l.length ≤ 65536) (hn : n ≤ 65536) : ¬ MapOk l ∧ 0 < l.length := by
  unfold pairE at h
  rw [if_neg (by omega)] at h
  split at h
  · exact absurd rfl h
  · rename_i h2
    refine ⟨fun hm => h2 ?_, ?_⟩
    · have := hm.1
      unfold listOk at this
      rw [Bool.and_eq_true] at this
      exact this.2
    · rcases l with _ | ⟨x, l⟩
      · exact absurd rfl h2
      · simp
set_option maxRecDepth 100000 in
set_option maxHeartbeats 8000000 in
theorem map_calls : MapC := by
  intro l n vl w S hl hTb hle
  have hT : Lib.Utf8Tabs 1 2 w := hTb.utf
  have hl2 : l.length = 2 * n := by obtain ⟨_, _, _, _, h, _⟩ := hl; exact h
  have hn : n ≤ 65536 := by omega
  obtain ⟨w1, hw1, hB1, hsz, hb0⟩ := box1 w (.int .i64 0) (.int .i64 0) (.string ⟨#[]⟩) (.slice none 0 0) 24
  have hlk : ∀ W, Below w.heap.size w W → IsSP W S l n vl := by
    intro W hb
    obtain ⟨A, cap, rfl, h1, h2, h3⟩ := hl
    exact ⟨A, cap, rfl, h1, h2, h3.below hb⟩
  have HV := paired_calls l n vl w1 S (hlk _ hB1) (tabs_below hT hB1) (by omega)
  have HCl := Lib.hid fun (W : World) (hb : Below w1.heap.size w1 W) => cloneP_calls l n vl W S (hlk _ (below_then hB1 hB1.size hb)) hn
  have HT1 := Lib.hid (tabs_below hT hB1)
  obtain ⟨A, ca, rfl, hca, _, hA⟩ := hl
  obtain ⟨hpl, hpf⟩ := pairsV_length n l hl2
  have HPL := Lib.hid hpl
  have HL2 := Lib.hid hl2
  have HLE := Lib.hid hle
  clear hT hA hTb hlk hpl hpf hl2 hle
  obtain ⟨e0, e1, e2, e3⟩ := block4 hb0
  have HB0 := Lib.hid hb0
  clear hb0
  by_cases h0 : pairE l n = 0
  · have HOk := Lib.hid (pair_ok h0 HLE.out).1
    rw [h0] at HV
    have HV := Lib.hid HV
    clear h0
    go_enter Tryz.func57, Tryz.ntmps57
    go_wp2_with (first
      | (go_at_call 75; refine HV.out.mono ?_; rintro e w2 ⟨rfl, hb2⟩)
      | (go_at_call 76; refine (HCl.out _ hb2).mono ?_; rintro e w3 ⟨v', rfl, hO3, hb3⟩; have HO3 := Lib.hid hO3.rowQ; clear hO3)
      | (go_at_call 77; refine (revQ (pairsV l) v' w2.heap.size w3 _ (fun b h => h) HO3.out (by rw [HPL.out]; exact hn)).mono ?_; rintro e w4 ⟨rfl, hO4, hB4⟩; have HO4 := Lib.hid hO4; have hb4 := Lib.hid (hb3.trans (hB4.below hb3.size (fun b h => h))); clear hO4 hB4)
      | (go_at_call 78; refine (sortQ (pairsV l).reverse v' w2.heap.size w4 _ (fun b h => h) HO4.out (by rw [List.length_reverse, HPL.out]; exact hn)).mono ?_; rintro e w5 ⟨rfl, ps1, hp, hs, hO5, hB5⟩; have HO5 := Lib.hid hO5; have hb5 := Lib.hid (hb4.out.trans (hB5.below hb4.out.size (fun b h => h))); have HP := Lib.hid (hp.trans (List.reverse_perm _)); have HS := Lib.hid hs; clear hp hs hO5 hB5)
      | (go_at_call 81; refine (compactQ ps1 v' w2.heap.size w5 _ (fun b h => h) HO5.out (by rw [HP.out.length_eq, HPL.out]; exact hn)).mono ?_; rintro e w6 ⟨ps2, v2, rfl, hO6, hB6, hc6⟩; have HO6 := Lib.hid hO6; have hb6 := Lib.hid (hb5.out.trans (hB6.below hb5.out.size (fun b h => h))); have HX := Lib.hid (map_fin (by have := HL2.out; omega) HP.out HS.out HOk.out hc6); have HL6 := Lib.hid (show ps2.length ≤ 65536 by have h1 := HP.out.length_eq; have h2 := HPL.out; rcases hc6 with ⟨_, rfl⟩ | ⟨_, h⟩ <;> omega); obtain ⟨A6, c6, rfl, hc6', hl6, hA6⟩ := hO6.is (S' := fun _ => True) (fun _ _ => trivial) (fun _ _ => trivial); have HA6 := Lib.hid hA6; have HLF := Lib.hid hl6; clear hO6 hB6 hc6 hA6 hl6))
    clear HO3 HO4 HO5 HCl HV HP HS
    obtain ⟨base, hbase⟩ : ∃ base, w6.heap.size = base := ⟨_, rfl⟩
    have HBS := Lib.hid hbase
    obtain ⟨m, hm⟩ : ∃ m, ps2.length = m := ⟨_, rfl⟩
    have HM := Lib.hid hm
    rw [hm] at hc6' ⊢
    have hm6 : m ≤ 65536 := by have := HL6.out; omega
    clear hm
    have HA7 : Hid (LA w6 (fun b => b < base) (flatP ps2) A6) := Lib.hid (HA6.out.keep fun b hb _ => ⟨by have := HBS.out; omega, rfl⟩)
    clear HA6
    go_loopw [6, 25] (fun v6 vi wr => ∃ (i : Nat) (L : List V), vi = .int .i64 i ∧ i ≤ m ∧ Hid (L = (flatP ps2).take (2 * i)) ∧ Hid (OwnL wr base (fun b => b < base) L v6) ∧ Hid (Below w6.heap.size w6 wr)) (fun _ vi _ => m - (intOf vi).toNat)
    case atStart => exact ⟨0, [], rfl, Nat.zero_le _, Lib.hid rfl, Lib.hid (OwnL.nil _ _ _), Lib.hid (Below.refl _ _)⟩
    case round =>
      obtain ⟨i, L, rfl, him, hL, hO, hbr⟩ := hrel
      have HTL := Lib.hid (show L.length = 2 * i by rw [hL.out, List.length_take]; have := HLF.out; have := HM.out; omega)
      by_cases hlt : i < m
      · have hz : (i : Int) < (m : Int) := by omega
        have h2i : 2 * i + 1 < (flatP ps2).length := by have := HLF.out; have := HM.out; omega
        obtain ⟨ad, A1, c1, A2, c2, had, hla', f0, f1, f2, f3, f4, f5, f6, f7, hX, hY⟩ := (HA7.out.below hbr.out).pair i h2i
        subst had
        obtain ⟨X, hXe⟩ : ∃ X, itemAt (flatP ps2) (2 * i) = X := ⟨_, rfl⟩
        obtain ⟨Y, hYe⟩ : ∃ Y, itemAt (flatP ps2) (2 * i + 1) = Y := ⟨_, rfl⟩
        have HT2 := take_two h2i
        rw [hXe, hYe, ← hL.out] at HT2
        have HT2 := Lib.hid HT2
        rw [hXe] at f0 f1 f2 f3 hX
        rw [hYe] at f4 f5 f6 f7 hY
        clear hXe hYe
        obtain ⟨w7, hw7, hB7, hs7, hk7⟩ := box8 wr #[.int .i64 X.kind, .int .i64 X.num, .string X.text, .slice A1 X.items.length c1, .int .i64 Y.kind, .int .i64 Y.num, .string Y.text, .slice A2 Y.items.length c2] 89
        obtain ⟨k0, k1, k2, k3, k4, k5, k6, k7⟩ := block8 hk7
        have HO7 := Lib.hid (hO.out.below hB7)
        have HB7 := Lib.hid (below_then hbr.out hbr.out.size hB7)
        have hbs7 : base ≤ w7.heap.size := by have := HBS.out; have := hbr.out.size; have := hB7.size; omega
        obtain ⟨A8, c8, hv6, h8⟩ := HO7.out.form
        subst hv6
        have hown := HO7.out.own_lt
        have HX7 : Hid (VC w7 (fun b => b < base ∧ some b ≠ (Value.slice A8 L.length c8).ownBlock) X [.int .i64 X.kind, .int .i64 X.num, .string X.text, .slice A1 X.items.length c1]) := Lib.hid (by
          obtain ⟨c, h1, h2⟩ := hX.below hB7
          have h3 : c = [.int .i64 X.kind, .int .i64 X.num, .string X.text, .slice A1 X.items.length c1] := by injection h2 with h2; exact (Array.toList_inj.2 h2).symm
          rw [← h3]
          exact h1.keep (Keeps.weak fun b hb => ⟨hb, fun e => by have := (hown b e.symm).1; omega⟩))
        have HY7 : Hid (VC w7 (fun b => b < base ∧ some b ≠ (Value.slice A8 L.length c8).ownBlock) Y [.int .i64 Y.kind, .int .i64 Y.num, .string Y.text, .slice A2 Y.items.length c2]) := Lib.hid (by
          obtain ⟨c, h1, h2⟩ := hY.below hB7
          have h3 : c = [.int .i64 Y.kind, .int .i64 Y.num, .string Y.text, .slice A2 Y.items.length c2] := by injection h2 with h2; exact (Array.toList_inj.2 h2).symm
          rw [← h3]
          exact h1.keep (Keeps.weak fun b hb => ⟨hb, fun e => by have := (hown b e.symm).1; omega⟩))
        clear hX hY hk7 h8 hown
        have HTM := Lib.hid (show L.length ≤ 4294967296 by have := HTL.out; omega)
        have hbs6 : w6.heap.size ≤ w7.heap.size := by have := HBS.out; omega
        go_wp2_with (at_builtin; refine append_two base (fun b => b < base) rfl _ _ rfl (.slice A8 L.length c8) L X Y (.int .i64 X.kind) (.int .i64 X.num) (.string X.text) (.slice A1 X.items.length c1) (.int .i64 Y.kind) (.int .i64 Y.num) (.string Y.text) (.slice A2 Y.items.length c2) rfl rfl HO7.out HX7.out HY7.out hbs7 HTM.out ?_; intro v1 w8 hO8 hg8; have HB8 := Lib.hid (HB7.out.grown hg8 hbs6 (fun k e => by have h1 := (HO7.out.own_lt k e).1; have h2 := HBS.out; omega)); have HO8 := Lib.hid hO8; clear hO8 hg8)
        go_roundw
        case rel => exact ⟨i + 1, L ++ [X, Y], by go_num, by omega, Lib.hid HT2.out.symm, HO8, HB8⟩
        case measure => simp [intOf]; omega
      · have hz : ¬ (i : Int) < (m : Int) := by omega
        have HLe : Hid (L = flatP ps2) := Lib.hid (by rw [hL.out]; exact List.take_of_length_le (by have := HLF.out; have := HM.out; omega))
        have HLn : Hid (L.length ≤ 4294967296) := Lib.hid (by have := HTL.out; omega)
        clear hz
        have hz : ¬ (i : Int) < (m : Int) := by omega
        obtain ⟨A8, c8, hv6, h8⟩ := hO.out.form
        subst hv6
        have HIS : Hid (IsS wr (fun _ => True) L (.slice A8 L.length c8)) := Lib.hid (hO.out.is (fun _ _ => trivial) (fun _ _ => trivial) HLn.out)
        have hbw := Lib.hid (hb6.out.trans (hbr.out.mono hb6.out.size))
        have HTT := tabs_below HT1.out (below_then hb2 hb2.size hbw.out)
        have HMD := made_kind 6 ⟨by decide, by decide⟩ L (.slice A8 L.length c8) wr (fun _ => True) HIS.out HTT
        have HMD := Lib.hid HMD
        have HXm : Hid ((MapOk l ∧ (if rightB (V.kd 6 L) = true then V.kd 6 L else V.zero) = V.map (flatP (sortP (pairsV l)))) ∨ (¬ MapOk l ∧ (if rightB (V.kd 6 L) = true then V.kd 6 L else V.zero).items.length < l.length)) := Lib.hid (by rw [HLe.out]; exact HX.out)
        obtain ⟨LL, hLL⟩ : ∃ LL, L.length = LL := ⟨_, rfl⟩
        rw [hLL] at HMD ⊢
        clear h8 HTT HLe HIS HX hLL HA7 hO hL HTL HM HL6 HLF
        go_wp2_with (go_at_call 84; refine HMD.out.mono ?_; rintro e w9 ⟨v, rfl, hv, hb9⟩; replace hb9 := Lib.hid (hbw.out.trans (hb9.mono hbw.out.size)); obtain ⟨X, hX⟩ : ∃ X, (if rightB (V.kd 6 L) = true then V.kd 6 L else V.zero) = X := ⟨_, rfl⟩; rw [hX] at hv HXm; obtain ⟨E, hE⟩ : ∃ E : Int, (if rightB (V.kd 6 L) = true then 0 else 2) = E := ⟨_, rfl⟩; rw [hE]; clear hX hE; obtain ⟨hbv, A2, cap2, rfl, hc2, hLA2⟩ := hv.eq; have HV6 := Lib.hid hv; clear hv hLA2; have f0 := cellB hb9.out (cellB hb2 e0); have f1 := cellB hb9.out (cellB hb2 e1); have f2 := cellB hb9.out (cellB hb2 e2); have f3 := cellB hb9.out (cellB hb2 e3); have fz := free4 (blockB hb9.out (blockB hb2 HB0.out)); clear e0 e1 e2 e3)
        have hs2 := hb2.size
        have hs9 := hbw.out.size
        refine bodyPost_ret (v := .tuple #[.agg #[.int .i64 X.kind, .int .i64 X.num, .string X.text, .slice A2 X.items.length cap2], .int .i64 E]) (by simp [results, Tryz.results57, go_sem, f0, f1, f2, f3]) rfl ⟨_, X, _, rfl, ?_, ?_, HXm.out⟩
        · have hn : ∀ b, b < wr.heap.size → ¬ (fun b => wr.heap.size ≤ b) b := fun b h (h' : wr.heap.size ≤ b) => by omega
          refine (IsV.keep (S' := fun b => wr.heap.size ≤ b) ?_ HV6.out).keep (Keeps.weak fun b (h : wr.heap.size ≤ b) => show w.heap.size ≤ b by omega)
          repeat refine Keeps.set_after ?_ (hn _ (by simp; omega)) _
          exact Keeps.refl _ _
        · repeat refine Below.setCell ?_ (by simp) _
          exact below_then hB1 hB1.size (below_then hb2 hb2.size hb9.out)
  · have h1 : (pairE l n != 0) = true := by simpa using h0
    have HV := Lib.hid HV
    have HNO := Lib.hid (pair_bad h0 HLE.out hn)
    clear h0
    go_enter Tryz.func57, Tryz.ntmps57
    go_wp2_with (go_at_call 75; refine HV.out.mono ?_; rintro e w2 ⟨rfl, hb2⟩; have f0 := cellB hb2 e0; have f1 := cellB hb2 e1; have f2 := cellB hb2 e2; have f3 := cellB hb2 e3; have fz := free4 (blockB hb2 HB0.out); clear e0 e1 e2 e3)
    refine bodyPost_ret (v := .tuple #[.agg #[.int .i64 0, .int .i64 0, .string ⟨#[]⟩, .slice none 0 0], .int .i64 (pairE l n)]) (by simp [results, Tryz.results57, go_sem, f0, f1, f2, f3]) rfl ⟨_, V.zero, _, rfl, zero_is _ _, ?_, .inr ⟨HNO.out.1, HNO.out.2⟩⟩
    repeat refine Below.setCell ?_ (by simp) _
    exact below_then hB1 hB1.size hb2
end Go.Proofs.YtoiipdknamgcmaaGreatDoor
