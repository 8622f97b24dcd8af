/- value.Paired. Slices of pairs: append, Clone, Reverse. slices.Clone, slices.Reverse, SortStableFunc and CompactFunc of a slice of pairs. -/
import Derived.Test.YtoiipdknamgcmaaGreatDoorCStF
import Derived.Test.YtoiipdknamgcmaaGreatDoorCValF
import Derived.Test.YtoiipdknamgcmaaGreatDoorCSoF
import Derived.Test.YtoiipdknamgcmaaGreatDoorCBase
import Derived.Test.YtoiipdknamgcmaaGreatDoorCPlA
/- value.Paired. -/
set_option linter.unusedVariables false
set_option linter.unusedSimpArgs false
namespace Go.Proofs.YtoiipdknamgcmaaGreatDoor
open Go.RowKit Go.Shelf
attribute [local go_sem] lt_succ_of

/-- A slice of n pairs; l: their keys and values in one row. -/
def IsSP (w : World) (S : Nat → Prop) (l : List V) (n : Nat) (v : Value) : Prop := ∃ A cap, v = .slice A n cap ∧ n ≤ cap ∧ l.length = 2 * n ∧ LA w S l A
theorem LA.pair {w : World} {S : Nat → Prop} {l : List V} {A : Option Addr} (h : LA w S l A) (i : Nat) (hi : 2 * i + 1 < l.length) :
    ∃ ad A1 c1 A2 c2, A = some ad ∧ (ad.add (i * 8)).block < w.heap.size ∧ w.cell? (ad.add (i * 8)) = some (.int .i64 (itemAt l (2 * i)).kind) ∧ w.cell? ⟨(ad.add (i * 8)).block, (ad.add (i * 8)).off + 1, none⟩ = some (.int .i64 (itemAt l (2 * i)).num) ∧
      w.cell? ⟨(ad.add (i * 8)).block, (ad.add (i * 8)).off + 2, none⟩ = some (.string (itemAt l (2 * i)).text) ∧ w.cell? ⟨(ad.add (i * 8)).block, (ad.add (i * 8)).off + 3, none⟩ = some (.slice A1 (itemAt l (2 * i)).items.length c1) ∧
      w.cell? ⟨(ad.add (i * 8)).block, (ad.add (i * 8)).off + 4, none⟩ = some (.int .i64 (itemAt l (2 * i + 1)).kind) ∧ w.cell? ⟨(ad.add (i * 8)).block, (ad.add (i * 8)).off + 5, none⟩ = some (.int .i64 (itemAt l (2 * i + 1)).num) ∧
      w.cell? ⟨(ad.add (i * 8)).block, (ad.add (i * 8)).off + 6, none⟩ = some (.string (itemAt l (2 * i + 1)).text) ∧ w.cell? ⟨(ad.add (i * 8)).block, (ad.add (i * 8)).off + 7, none⟩ = some (.slice A2 (itemAt l (2 * i + 1)).items.length c2) ∧
      IsV w S (itemAt l (2 * i)) (.agg #[.int .i64 (itemAt l (2 * i)).kind, .int .i64 (itemAt l (2 * i)).num, .string (itemAt l (2 * i)).text, .slice A1 (itemAt l (2 * i)).items.length c1]) ∧
      IsV w S (itemAt l (2 * i + 1)) (.agg #[.int .i64 (itemAt l (2 * i + 1)).kind, .int .i64 (itemAt l (2 * i + 1)).num, .string (itemAt l (2 * i + 1)).text, .slice A2 (itemAt l (2 * i + 1)).items.length c2]) := by
  obtain ⟨ad, A1, c1, rfl, hlt, hbd, f0, f1, f2, f3, hc, hA1⟩ := h.at (2 * i) (by omega)
  obtain ⟨ad2, A2, c2, had, hlt2, hbd2, g0, g1, g2, g3, hc2, hA2⟩ := h.at (2 * i + 1) hi
  obtain rfl : ad = ad2 := by injection had
  rw [show 2 * i * 4 = i * 8 by omega] at f0 f1 f2 f3 hlt
  rw [show (2 * i + 1) * 4 = i * 8 + 4 by omega] at g0 g1 g2 g3
  have e1 : ad.add (i * 8 + 4) = ⟨(ad.add (i * 8)).block, (ad.add (i * 8)).off + 4, none⟩ := addr_add_field ad (i * 8) 4 (by omega)
  rw [e1] at g0 g1 g2 g3
  exact ⟨ad, A1, c1, A2, c2, rfl, hlt, f0, f1, f2, f3, g0, g1, g2, g3, IsV.mk hbd hc hA1, IsV.mk hbd2 hc2 hA2⟩
theorem block8' {w : World} {b : Nat} {c0 c1 c2 c3 c4 c5 c6 c7 : Value} {t : TypeId} (h : w.heap[b]? = some (.cells #[c0, c1, c2, c3, c4, c5, c6, c7] t (0, 0))) {w' : World} (hb : Below w.heap.size w w') :
    w'.cell? ⟨b, 4, none⟩ = some c4 ∧ w'.cell? ⟨b, 5, none⟩ = some c5 ∧ w'.cell? ⟨b, 6, none⟩ = some c6 ∧ w'.cell? ⟨b, 7, none⟩ = some c7 := by
  obtain ⟨_, _, _, _, h4, h5, h6, h7⟩ := block8 h
  exact ⟨cellB hb h4, cellB hb h5, cellB hb h6, cellB hb h7⟩
theorem box8 (w : World) (c : Array Value) (t : TypeId) : ∃ w1, w.alloc (.cells c t) = w1 ∧ Below w.heap.size w w1 ∧ w.heap.size < w1.heap.size ∧ w1.heap[w.heap.size]? = some (.cells c t (0, 0)) :=
  ⟨_, rfl, (Below.refl _ _).alloc (Nat.le_refl _) _, by simp, heap_alloc_new w _⟩
/-- What is wrong with a list of n pairs. -/
def pairE (l : List V) (n : Nat) : Int := if 65536 < n then 2 else if rightsB l = true then 0 else 3
theorem rights_two {l : List V} {i : Nat} (hi : 2 * i + 1 < l.length) : rightsB (l.take (2 * (i + 1))) = (rightsB (l.take (2 * i)) && rightB (itemAt l (2 * i)) && rightB (itemAt l (2 * i + 1))) := by
  rw [show 2 * (i + 1) = 2 * i + 1 + 1 by omega, rightsB_take hi, rightsB_take (by omega)]
set_option maxRecDepth 100000 in
set_option maxHeartbeats 4000000 in
theorem paired_calls (l : List V) (n : Nat) (vl : Value) (w : World) (S : Nat → Prop) (hl : IsSP w S l n vl) (hT : Lib.Utf8Tabs 1 2 w) (hn : n ≤ 4294967296) :
    Calls Tryz.prog 75 #[vl] w fun e w' => e = .returned (.int .i64 (pairE l n)) ∧ Below w.heap.size w w' := by
  obtain ⟨A, ca, rfl, hca, hla, hA⟩ := hl
  have HT := Lib.hid hT
  clear hT
  obtain ⟨EL, hEL⟩ : ∃ e, pairE l n = e := ⟨_, rfl⟩
  rw [hEL]
  have HEL := Lib.hid hEL
  clear hEL
  by_cases h1 : 65536 < n
  · have HE : Hid (EL = 2) := Lib.hid (by rw [← HEL.out, pairE, if_pos h1])
    have h2 : (65536 : Int) < n := by omega
    go_enter Tryz.func75, Tryz.ntmps75
    go_wp2_with fail
    go_ret
    exact ⟨ret_i HE.out.symm, Below.refl _ _⟩
  · have h2 : ¬ (65536 : Int) < n := by omega
    have H1 := Lib.hid h1
    have HL := Lib.hid hla
    clear h1 hla
    go_enter Tryz.func75, Tryz.ntmps75
    go_wp2_with fail
    clear h2
    go_loopw [10] (fun v wr => ∃ i : Nat, v = .int .i64 i ∧ i ≤ n ∧ Hid (rightsB (l.take (2 * i)) = true) ∧ Below w.heap.size w wr) (fun v _ => n - (intOf v).toNat)
    case atStart => exact ⟨0, rfl, by omega, Lib.hid (by rw [List.take_zero]; rfl), Below.refl _ _⟩
    case round =>
      obtain ⟨i, rfl, hi, hr, hf⟩ := hrel
      have hA' := hA.below hf
      clear hA
      by_cases hlt : i < n
      · have hz : (i : Int) < (n : Int) := by omega
        have h2i : 2 * i + 1 < l.length := by have := HL.out; omega
        obtain ⟨ad, A1, c1, A2, c2, rfl, hla', f0, f1, f2, f3, f4, f5, f6, f7, hX, hY⟩ := hA'.pair i h2i
        obtain ⟨w1, hw1, hB1, hs1, hk1⟩ := box8 wr #[.int .i64 (itemAt l (2 * i)).kind, .int .i64 (itemAt l (2 * i)).num, .string (itemAt l (2 * i)).text, .slice A1 (itemAt l (2 * i)).items.length c1, .int .i64 (itemAt l (2 * i + 1)).kind, .int .i64 (itemAt l (2 * i + 1)).num, .string (itemAt l (2 * i + 1)).text, .slice A2 (itemAt l (2 * i + 1)).items.length c2] 89
        have hf1 := below_then hf hf.size hB1
        have HT1 := tabs_below HT.out hf1
        have HK1 := Lib.hid (right_calls (itemAt l (2 * i)) _ w1 S (hX.below hB1) HT1)
        have HK2 := Lib.hid fun (w' : World) (hb' : Below w1.heap.size w1 w') => right_calls (itemAt l (2 * i + 1)) _ w' S (hY.below (below_then hB1 hB1.size hb')) (tabs_below HT1 hb')
        have HTW := Lib.hid (rights_two h2i)
        obtain ⟨k0, k1, k2, k3, _⟩ := block8 hk1
        have HB8 := Lib.hid hk1
        have hl1 : wr.heap.size < w1.heap.size := hs1
        clear hA' hX hY HT1 hk1
        cases hx : rightB (itemAt l (2 * i)) with
        | false =>
          have HE : Hid (EL = 3) := Lib.hid (by rw [← HEL.out, pairE, if_neg H1.out, rightsB_false (by omega) hx]; rfl)
          rw [hx] at HK1
          clear hx
          go_wp2_with (go_at_call 26; refine HK1.out.mono ?_; rintro e w3 ⟨rfl, hb3⟩)
          go_ret
          exact ⟨ret_i HE.out.symm, below_then hf1 hf1.size hb3⟩
        | true =>
          rw [hx] at HK1
          cases hy : rightB (itemAt l (2 * i + 1)) with
          | false =>
            have HE : Hid (EL = 3) := Lib.hid (by rw [← HEL.out, pairE, if_neg H1.out, rightsB_false h2i hy]; rfl)
            rw [hy] at HK2
            clear hx hy
            go_wp2_with (first
              | (go_at_call 26; refine HK1.out.mono ?_; rintro e w3 ⟨rfl, hb3⟩; obtain ⟨k4, k5, k6, k7⟩ := block8' HB8.out hb3; have l3 := World.block_lt_of_cell? w3 _ k4; clear HK1)
              | (go_at_call 26; refine (HK2.out _ hb3).mono ?_; rintro e w4 ⟨rfl, hb4⟩))
            go_ret
            exact ⟨ret_i HE.out.symm, below_then hf1 hf1.size (below_then hb3 hb3.size hb4)⟩
          | true =>
            have HR : Hid (rightsB (l.take (2 * (i + 1))) = true) := Lib.hid (by rw [HTW.out, hr.out, hx, hy]; rfl)
            rw [hy] at HK2
            clear hx hy
            go_wp2_with (first
              | (go_at_call 26; refine HK1.out.mono ?_; rintro e w3 ⟨rfl, hb3⟩; obtain ⟨k4, k5, k6, k7⟩ := block8' HB8.out hb3; have l3 := World.block_lt_of_cell? w3 _ k4; clear HK1)
              | (go_at_call 26; refine (HK2.out _ hb3).mono ?_; rintro e w4 ⟨rfl, hb4⟩))
            go_roundw
            case rel => exact ⟨i + 1, by go_num, by omega, HR, below_then hf1 hf1.size (below_then hb3 hb3.size hb4)⟩
            case measure => simp [intOf]; omega
      · have hz : ¬ (i : Int) < (n : Int) := by omega
        have HE : Hid (EL = 0) := Lib.hid (by
          have he : l.take (2 * i) = l := List.take_of_length_le (by have := HL.out; omega)
          rw [← HEL.out, pairE, if_neg H1.out, if_pos (by rw [← he]; exact hr.out)])
        go_wp2_with fail
        go_ret
        exact ⟨ret_i HE.out.symm, hf⟩
end Go.Proofs.YtoiipdknamgcmaaGreatDoor

/- Slices of pairs: append, Clone, Reverse. -/
set_option linter.unusedVariables false
set_option linter.unusedSimpArgs false
namespace Go.Proofs.YtoiipdknamgcmaaGreatDoor
open Go.RowKit Go.Shelf Go.Sort
attribute [local go_sem] lt_succ_of

theorem infoP : (Tryz.prog.info? 89).map (fun i => (i.zero, i.size, i.bytes)) = some (some (.agg #[.int .i64 0, .int .i64 0, .string ⟨#[]⟩, .slice none 0 0, .int .i64 0, .int .i64 0, .string ⟨#[]⟩, .slice none 0 0]), 8, 112) := by kernel_rfl
/-- A slice of pairs of the call's own. -/
def OwnP (w : World) (base : Nat) (S : Nat → Prop) (l : List V) (n : Nat) (v : Value) : Prop := ∃ xs, w.ownsRow base 89 8 v n xs ∧ CsL w (fun b => S b ∧ some b ≠ v.ownBlock) l xs
theorem OwnP.nil (w : World) (base : Nat) (S : Nat → Prop) : OwnP w base S [] 0 (.slice none 0 0) := ⟨[], World.ownsRow_nil _ _ _ _, rfl⟩
theorem OwnP.length {w : World} {base : Nat} {S : Nat → Prop} {l : List V} {n : Nat} {v : Value} (h : OwnP w base S l n v) : l.length = 2 * n := by
  obtain ⟨xs, ⟨h1, _⟩, h2⟩ := h
  have := h2.length
  omega
theorem OwnP.keep {w w' : World} {base : Nat} {S S' : Nat → Prop} {l : List V} {n : Nat} {v : Value} (h : OwnP w base S l n v) (hk : Keeps w S w' S') (ho : ∀ k, v.ownBlock = some k → w'.heap[k]? = w.heap[k]?) : OwnP w' base S' l n v := by
  obtain ⟨xs, ⟨h1, h2⟩, h3⟩ := h
  refine ⟨xs, ⟨h1, ?_⟩, h3.keep fun b hb ⟨hs, hne⟩ => ⟨⟨(hk b hb hs).1, hne⟩, (hk b hb hs).2⟩⟩
  rcases h2 with h2 | ⟨g, cap, cur, rfl, hg, hh, r⟩
  · exact .inl h2
  · exact .inr ⟨g, cap, cur, rfl, hg, by rw [ho g rfl]; exact hh, r⟩
theorem OwnP.own_lt {w : World} {base : Nat} {S : Nat → Prop} {l : List V} {n : Nat} {v : Value} (h : OwnP w base S l n v) (k : Nat) (hk : v.ownBlock = some k) : base ≤ k ∧ k < w.heap.size := by
  obtain ⟨xs, h, _⟩ := h
  exact h.lt k hk
theorem OwnP.below {w w' : World} {base : Nat} {S : Nat → Prop} {l : List V} {n : Nat} {v : Value} (h : OwnP w base S l n v) (hb : Below w.heap.size w w') : OwnP w' base S l n v :=
  h.keep (Keeps.below hb) fun k hk => hb.block k (h.own_lt k hk).2
theorem OwnP.form {w : World} {base : Nat} {S : Nat → Prop} {l : List V} {n : Nat} {v : Value} (h : OwnP w base S l n v) : ∃ A cap, v = .slice A n cap ∧ n ≤ cap := by
  obtain ⟨xs, ⟨_, h⟩, _⟩ := h
  rcases h with ⟨rfl, h⟩ | ⟨g, cap, cur, rfl, _, _, h, _⟩
  · exact ⟨none, 0, by rw [h], by omega⟩
  · exact ⟨_, cap, rfl, h⟩
/-- A row of pairs that is the call's own: nil, or at the beginning of a block. -/
def RowPO (w : World) (base : Nat) (S : Nat → Prop) (l : List V) (n : Nat) (v : Value) : Prop :=
  (l = [] ∧ n = 0 ∧ v = .slice none 0 0) ∨ ∃ g cap, v = .slice (some ⟨g, 0, none⟩) n cap ∧ n ≤ cap ∧ base ≤ g ∧ g < w.heap.size ∧ RowV w g S l ∧ l.length = 2 * n
theorem OwnP.row {w : World} {base : Nat} {S : Nat → Prop} {l : List V} {n : Nat} {v : Value} (h : OwnP w base S l n v) : RowPO w base S l n v := by
  have hlen := h.length
  obtain ⟨xs, ⟨h1, h2⟩, h3⟩ := h
  rcases h2 with ⟨rfl, h2⟩ | ⟨g, cap, cur, rfl, hg, hh, hc, hm, hs, ht⟩
  · exact .inl ⟨List.length_eq_zero_iff.1 (by omega), h2, rfl⟩
  · refine .inr ⟨g, cap, rfl, hc, hg, (Array.getElem?_eq_some_iff.1 hh).1, ⟨xs, h3.keep (Keeps.weak fun b hb => hb.1), fun j u hj => ?_⟩, hlen⟩
    have h5 : cur.toList[j]? = some u := by
      rw [← ht] at hj
      rw [List.getElem?_take] at hj
      split at hj
      · exact hj
      · cases hj
    refine ⟨by simp only [World.cell?, hh]; simpa using h5, free4 hh j⟩
theorem RowPO.is {w : World} {base : Nat} {S S' : Nat → Prop} {l : List V} {n : Nat} {v : Value} (h : RowPO w base S l n v) (hs : ∀ b, S b → S' b) (hb : ∀ b, base ≤ b → S' b) : IsSP w S' l n v := by
  rcases h with ⟨rfl, rfl, rfl⟩ | ⟨g, cap, rfl, hc, hg, hlt, hR, hl⟩
  · exact ⟨none, 0, rfl, Nat.le_refl _, rfl, .inl rfl⟩
  · refine ⟨_, cap, rfl, hc, hl, hR.la.keep (Keeps.weak fun b h => ?_)⟩
    rcases h with h | rfl
    · exact hs b h
    · exact hb _ hg
section
variable {ops : Array Oper} {rest : List Oper} {o : Oper} {a : Act} {Q : Exit → Act → World → Prop}
/-- append(p, pair), the pair in the box that has just been made. -/
theorem append_pair {W : World} (base : Nat) (S : Nat → Prop) (hgd : o.guard = none) (s x : Operand) (ho : o.op = .call { callee := .builtin .append, args := #[s, x], argTypes := #[87, 87] })
    (v : Value) (l : List V) (n : Nat) (y z : V) (c0 c1 c2 c3 e0 e1 e2 e3 : Value) (hs : a.eval s = v) (hx : a.eval x = .slice (some ⟨W.heap.size, 0, none⟩) 1 1) (HO : OwnP W base S l n v) (hy : VC W (fun b => S b ∧ some b ≠ v.ownBlock) y [c0, c1, c2, c3]) (hz : VC W (fun b => S b ∧ some b ≠ v.ownBlock) z [e0, e1, e2, e3])
    (hbase : base ≤ W.heap.size) (hl : n ≤ 65536)
    (h : ∀ v1 w1, OwnP w1 base S (l ++ [y, z]) (n + 1) v1 → W.grownBy w1 v.ownBlock → wpList Tryz.prog ops Q rest (a.put o.dst v1) w1) :
    wpList Tryz.prog ops Q (o :: rest) a (W.alloc (.cells #[c0, c1, c2, c3, e0, e1, e2, e3] 89)) := by
  obtain ⟨i, hi, hz0, hz1, hz2⟩ := info_parts infoP
  obtain ⟨xs, hown, hcs⟩ := HO
  have hk : Keeps W (fun b => S b ∧ some b ≠ v.ownBlock) (W.alloc (.cells #[c0, c1, c2, c3, e0, e1, e2, e3] 89)) (fun b => S b ∧ some b ≠ v.ownBlock) := Keeps.alloc _
  have hone : ∀ u ∈ [c0, c1, c2, c3, e0, e1, e2, e3], u.oneCell' = true := by
    intro u hu
    have : u ∈ [c0, c1, c2, c3] ++ [e0, e1, e2, e3] := hu
    rcases List.mem_append.1 this with h | h
    · exact hy.one u h
    · exact hz.one u h
  refine wpList_append_own_at (W.alloc (.cells #[c0, c1, c2, c3, e0, e1, e2, e3] 89)) hgd s x 87 ho base 89 i _ 8 112 Tryz.underlying87 hi hz0 hz1 hz2 rfl (by decide) v n xs hs (hown.alloc _) ⟨W.heap.size, 0, none⟩ 1 1 [c0, c1, c2, c3, e0, e1, e2, e3] hx rfl
    (World.news_of_block (cs := #[c0, c1, c2, c3, e0, e1, e2, e3]) (heap_alloc_new W _)) hone (by simp only [maxLen]; omega) (by omega) (by simp; omega) ?_
  intro v1 w1 hown1 hg _ hat
  have hg' : W.grownBy w1 v.ownBlock := World.grownBy.trans (World.grownBy_alloc W _ _) hg
  refine h v1 w1 ⟨xs ++ [c0, c1, c2, c3, e0, e1, e2, e3], hown1, ?_⟩ hg'
  refine ((hcs.keep hk).append (m := [y, z]) ⟨[c0, c1, c2, c3], [e0, e1, e2, e3], rfl, hy.keep hk, ⟨[e0, e1, e2, e3], [], by simp, hz.keep hk, rfl⟩⟩).keep fun b hb ⟨hs', hne⟩ => ⟨⟨hs', ?_⟩, hg.block b hb hne⟩
  rcases hat with hat | hat
  · rw [hat]; exact hne
  · rw [hat]
    intro e
    injection e with e
    omega
/-- The same as a step of a region that draws its order. -/
theorem step_pair {W : World} {K : Act → World → Prop} {E : Prop} (base : Nat) (S : Nat → Prop) (hgd : o.guard = none) (s x : Operand) (ho : o.op = .call { callee := .builtin .append, args := #[s, x], argTypes := #[87, 87] })
    (v : Value) (l : List V) (n : Nat) (y z : V) (c0 c1 c2 c3 e0 e1 e2 e3 : Value) (hs : a.eval s = v) (hx : a.eval x = .slice (some ⟨W.heap.size, 0, none⟩) 1 1) (HO : OwnP W base S l n v) (hy : VC W (fun b => S b ∧ some b ≠ v.ownBlock) y [c0, c1, c2, c3]) (hz : VC W (fun b => S b ∧ some b ≠ v.ownBlock) z [e0, e1, e2, e3])
    (hbase : base ≤ W.heap.size) (hl : n ≤ 65536)
    (h : ∀ v1 w1, OwnP w1 base S (l ++ [y, z]) (n + 1) v1 → W.grownBy w1 v.ownBlock → K (a.put o.dst v1) w1) :
    if Region.wanted o (yielded ops a.tmps) = true then Oper.wp Tryz.prog o a (W.alloc (.cells #[c0, c1, c2, c3, e0, e1, e2, e3] 89)) K Q else E := by
  have hw : Region.wanted o (yielded ops a.tmps) = true := by simp [Region.wanted, hgd]
  rw [if_pos hw]
  obtain ⟨i, hi, hz0, hz1, hz2⟩ := info_parts infoP
  obtain ⟨xs, hown, hcs⟩ := HO
  have hk : Keeps W (fun b => S b ∧ some b ≠ v.ownBlock) (W.alloc (.cells #[c0, c1, c2, c3, e0, e1, e2, e3] 89)) (fun b => S b ∧ some b ≠ v.ownBlock) := Keeps.alloc _
  have hone : ∀ u ∈ [c0, c1, c2, c3, e0, e1, e2, e3], u.oneCell' = true := by
    intro u hu
    have : u ∈ [c0, c1, c2, c3] ++ [e0, e1, e2, e3] := hu
    rcases List.mem_append.1 this with h | h
    · exact hy.one u h
    · exact hz.one u h
  obtain ⟨v1, w1, hr, hown1, hg, _, hat⟩ := run_append_own_at (P := Tryz.prog) (W.alloc (.cells #[c0, c1, c2, c3, e0, e1, e2, e3] 89)) base 87 o.type 89 i _ 8 112 Tryz.underlying87 hi hz0 hz1 hz2 rfl (by decide) v n xs (hown.alloc _) ⟨W.heap.size, 0, none⟩ 1 1 [c0, c1, c2, c3, e0, e1, e2, e3] rfl
    (World.news_of_block (cs := #[c0, c1, c2, c3, e0, e1, e2, e3]) (heap_alloc_new W _)) hone (by simp only [maxLen]; omega) (by omega) (by simp; omega)
  unfold Oper.wp execOp
  simp only [ho, resolve, invoke, builtin, Sem.run_bind, Sem.run_pure, Result.andThen_ok, List.map_toArray, List.map_cons, List.map_nil, hs, hx, hr]
  have hg' : W.grownBy w1 v.ownBlock := World.grownBy.trans (World.grownBy_alloc W _ _) hg
  refine h v1 w1 ⟨xs ++ [c0, c1, c2, c3, e0, e1, e2, e3], hown1, ?_⟩ hg'
  refine ((hcs.keep hk).append (m := [y, z]) ⟨[c0, c1, c2, c3], [e0, e1, e2, e3], rfl, hy.keep hk, ⟨[e0, e1, e2, e3], [], by simp, hz.keep hk, rfl⟩⟩).keep fun b hb ⟨hs', hne⟩ => ⟨⟨hs', ?_⟩, hg.block b hb hne⟩
  rcases hat with hat | hat
  · rw [hat]; exact hne
  · rw [hat]
    intro e
    injection e with e
    omega
end
end Go.Proofs.YtoiipdknamgcmaaGreatDoor

/- slices.Clone, slices.Reverse, SortStableFunc and CompactFunc of a slice of pairs. -/
set_option linter.unusedVariables false
set_option linter.unusedSimpArgs false
namespace Go.Proofs.YtoiipdknamgcmaaGreatDoor
open Go.RowKit Go.Shelf Go.Sort
attribute [local go_sem] lt_succ_of

section
variable {ops : Array Oper} {rest : List Oper} {o : Oper} {a : Act} {Q : Exit → Act → World → Prop}
/-- append(v, m...), m a slice of pairs. -/
theorem append_manyP {W : World} (base : Nat) (S : Nat → Prop) (hgd : o.guard = none) (s x : Operand) (ho : o.op = .call { callee := .builtin .append, args := #[s, x], argTypes := #[87, 87] })
    (v : Value) (m : List V) (n : Nat) (A : Option Addr) (cap : Nat) (hs : a.eval s = v) (hx : a.eval x = .slice A n cap) (HO : OwnP W base S [] 0 v) (hm : LA W (fun b => S b ∧ some b ≠ v.ownBlock) m A) (hl : m.length = 2 * n)
    (hbase : base ≤ W.heap.size) (hn : n ≤ 65536)
    (h : ∀ v1 w1, OwnP w1 base S m n v1 → W.grownBy w1 v.ownBlock → wpList Tryz.prog ops Q rest (a.put o.dst v1) w1) :
    wpList Tryz.prog ops Q (o :: rest) a W := by
  obtain ⟨i, hi, hz0, hz1, hz2⟩ := info_parts infoP
  obtain ⟨xs, hown, hcs⟩ := HO
  rcases hm with rfl | ⟨ad, rfl, hm⟩
  · obtain rfl : n = 0 := by simp at hl; omega
    have hrun : (Builtin.append_ #[87, 87] o.type #[v, .slice A 0 cap]).run Tryz.prog W = .ok v W := by
      rcases hown.2 with ⟨rfl, hn⟩ | ⟨g, cap', cur, rfl, _, _, hnc, _⟩
      · cases A <;> simp [Builtin.append_, run_underlying Tryz.underlying87, sizeOf, typeInfo, hi, Builtin.lenOf, Builtin.firstCells, loadCells, loadCellsFrom]
      · cases A <;> simp [Builtin.append_, run_underlying Tryz.underlying87, sizeOf, typeInfo, hi, Builtin.lenOf, Builtin.firstCells, hnc, storeCells, loadCells, loadCellsFrom]
    refine wpList_plain hgd fun K hK => ?_
    unfold Oper.wp execOp
    simp only [ho, resolve, invoke, builtin, Sem.run_bind, Sem.run_pure, Result.andThen_ok, List.map_toArray, List.map_cons, List.map_nil, hs, hx, List.length_nil, hrun]
    exact hK _ _ (h v W ⟨xs, hown, hcs⟩ (World.grownBy.refl W _))
  · obtain ⟨ys, hys, hcell⟩ := LC.cs hm
    refine wpList_append_own_at W hgd s x 87 ho base 89 i _ 8 112 Tryz.underlying87 hi hz0 hz1 hz2 rfl (by decide) v 0 xs hs hown ad n cap ys hx (by have := hys.length; omega)
      (fun j u hu => by simpa using hcell j u hu) hys.one (by simp only [maxLen]; omega) (by omega) hbase ?_
    intro v1 w1 hown1 hg _ hat
    have hx0 : xs = [] := hcs
    subst hx0
    refine h v1 w1 ⟨ys, by simpa using hown1, ?_⟩ hg
    refine hys.keep fun b hb ⟨hs', hne⟩ => ⟨⟨hs', ?_⟩, hg.block b hb hne⟩
    rcases hat with hat | hat
    · rw [hat]; exact hne
    · rw [hat]
      intro e
      injection e with e
      omega
end
theorem own_emptyP (w : World) : OwnP (w.alloc (.cells #[] 89)) w.heap.size (fun b => b < w.heap.size) [] 0 (.slice (some ⟨w.heap.size, 0, none⟩) 0 0) :=
  ⟨[], ⟨rfl, .inr ⟨w.heap.size, 0, #[], rfl, Nat.le_refl _, heap_alloc_new w _, Nat.le_refl _, Nat.zero_le _, rfl, rfl⟩⟩, rfl⟩
set_option maxRecDepth 100000 in
set_option maxHeartbeats 4000000 in
theorem cloneP_calls (l : List V) (n : Nat) (vl : Value) (w : World) (S : Nat → Prop) (hl : IsSP w S l n vl) (hn : n ≤ 65536) :
    Calls Tryz.prog 76 #[vl] w fun e w' => ∃ v', e = .returned v' ∧ OwnP w' w.heap.size (fun b => b < w.heap.size) l n v' ∧ Below w.heap.size w w' := by
  obtain ⟨A, ca, rfl, hca, hla, hA⟩ := hl
  have q22 : ∀ (w : World) (a : Option Addr) (n c n' c' : Nat), (binOp .eql 87 (.slice a n c) (.slice none n' c')).run Tryz.prog w = .ok (.bool a.isNone) w := fun w a n c n' c' => Lib.run_eql_slice_nil w _ _ a n c n' c' Tryz.underlying87
  cases A with
  | none =>
    have hz : l = [] := by
      rcases hA with h | ⟨ad, h, _⟩
      · exact h
      · cases h
    subst hz
    obtain rfl : n = 0 := by simp at hla; omega
    go_enter Tryz.func76, Tryz.ntmps76
    go_wp2_with fail
    go_ret
    exact ⟨_, rfl, OwnP.nil _ _ _, Below.refl _ _⟩
  | some ad =>
    have hm : LA (w.alloc (.cells #[] 89)) (fun b => b < w.heap.size ∧ some b ≠ (Value.slice (some ⟨w.heap.size, 0, none⟩) 0 0).ownBlock) l (some ad) := hA.keep fun b hb hs => ⟨⟨hb, fun e => by injection e with e; exact absurd (show b = w.heap.size from e) (Nat.ne_of_lt hb)⟩, Below.heap_alloc _ _ _ hb⟩
    have HM := Lib.hid hm
    have hsz : w.heap.size ≤ (w.alloc (.cells #[] 89)).heap.size := by simp
    have HSZ := Lib.hid hsz
    have HLA := Lib.hid hla
    have HB := Lib.hid (show Below w.heap.size w (w.alloc (.cells #[] 89)) from (Below.refl _ _).alloc (Nat.le_refl _) _)
    clear hm hA hsz hla
    go_enter Tryz.func76, Tryz.ntmps76
    go_wp2_with (at_builtin; refine append_manyP w.heap.size (fun b => b < w.heap.size) rfl _ _ rfl (.slice (some ⟨w.heap.size, 0, none⟩) 0 0) l n (some ad) ca rfl rfl (own_emptyP w) HM.out HLA.out HSZ.out hn ?_; intro v1 w1 hO1 hg1; have HO1 := Lib.hid hO1; have HB1 := Lib.hid (HB.out.grown hg1 HSZ.out (fun k e => by injection e with e; exact Nat.le_of_eq e)); obtain ⟨A1, c1, rfl, _⟩ := hO1.form; clear hO1 hg1)
    go_ret
    exact ⟨_, rfl, HO1.out, HB1.out⟩
theorem pairs_flat : ∀ l : List (V × V), pairsV (flatP l) = l
  | [] => rfl
  | p :: l => by
    show (p.1, p.2) :: pairsV (flatP l) = _
    rw [pairs_flat l]
theorem pairsV_length : ∀ (n : Nat) (l : List V), l.length = 2 * n → (pairsV l).length = n ∧ flatP (pairsV l) = l
  | 0, l, h => by
    obtain rfl : l = [] := List.length_eq_zero_iff.1 (by omega)
    exact ⟨rfl, rfl⟩
  | n + 1, [], h => by simp at h
  | n + 1, [_], h => by simp at h; omega
  | n + 1, a :: b :: l, h => by
    obtain ⟨h1, h2⟩ := pairsV_length n l (by simp at h; omega)
    exact ⟨by show (pairsV l).length + 1 = _; rw [h1], by show a :: b :: flatP (pairsV l) = _; rw [h2]⟩
/-- A slice of pairs that is the call's own, by its pairs. -/
def RowQ (w : World) (base : Nat) (S : Nat → Prop) (ps : List (V × V)) (v : Value) : Prop := RowPO w base S (flatP ps) ps.length v
theorem OwnP.rowQ {w : World} {base : Nat} {S : Nat → Prop} {l : List V} {n : Nat} {v : Value} (h : OwnP w base S l n v) : RowQ w base S (pairsV l) v := by
  obtain ⟨h1, h2⟩ := pairsV_length n l h.length
  unfold RowQ
  rw [h1, h2]
  exact h.row
theorem flatP_len (ps : List (V × V)) : (flatP ps).length = 2 * ps.length := by
  induction ps with
  | nil => rfl
  | cons p ps ih => show (p.1 :: p.2 :: flatP ps).length = _; simp only [List.length_cons, ih]; omega
theorem rowQ_nil {w : World} {base : Nat} {S : Nat → Prop} {v : Value} (h : v = .slice none 0 0) : RowQ w base S [] v := .inl ⟨rfl, rfl, h⟩
theorem rowQ_cases {w : World} {base : Nat} {S : Nat → Prop} {ps : List (V × V)} {v : Value} (h : RowQ w base S ps v) : (ps = [] ∧ v = .slice none 0 0) ∨ ∃ g cap, v = .slice (some ⟨g, 0, none⟩) ps.length cap ∧ ps.length ≤ cap ∧ base ≤ g ∧ g < w.heap.size ∧ RowV w g S (flatP ps) := by
  rcases h with ⟨h1, h2, h3⟩ | ⟨g, cap, rfl, hc, hg, hlt, hR, hl⟩
  · exact .inl ⟨List.length_eq_zero_iff.1 h2, h3⟩
  · exact .inr ⟨g, cap, rfl, hc, hg, hlt, hR⟩
theorem revQ (ps : List (V × V)) (v : Value) (base : Nat) (w : World) (S : Nat → Prop) (hS : ∀ b, S b → b < base) (h : RowQ w base S ps v) (hn : ps.length ≤ 65536) :
    Calls Tryz.prog 77 #[v] w fun e w' => e = .returned (.tuple #[]) ∧ RowQ w' base S ps.reverse v ∧ But (fun b => base ≤ b) w w' := by
  rcases rowQ_cases h with ⟨rfl, rfl⟩ | ⟨g, cap, rfl, hc, hg, hlt, hR⟩
  · refine (AnyQ.slices_Reverse_empty Tryz.revP none 0 w).mono ?_
    rintro e w' ⟨rfl, rfl⟩
    exact ⟨rfl, rowQ_nil rfl, But.of (Below.refl _ _)⟩
  · obtain ⟨d, hd, hH⟩ := hR.holdsP
    have hdn : d.size = ps.length := by rw [← hd, List.length_map]; rfl
    have hSg : ∀ b, S b → b ≠ g := fun b hb e => by have := hS b hb; omega
    have := AnyQ.slices_Reverse Tryz.revP 8 Tryz.isAgg89 Tryz.sizeOf89 (encP (w := w) (S := S)) encP_length encP_one g 0 cap d w hH (by omega)
    rw [hdn] at this
    refine this.mono ?_
    rintro e w' ⟨rfl, m, rfl⟩
    have hsw : SWK encP 8 w g 0 d.reverse (putRowK encP 8 (Sort.ahead w m) g 0 d.reverse) := ⟨m, #[], by unfold sortWorldK; rw [grow_empty]⟩
    obtain ⟨k1, k2⟩ := swk_row hSg hH hlt (by rw [Array.size_reverse]) hsw
    rw [Array.toList_reverse, List.map_reverse, hd] at k1
    exact ⟨rfl, .inr ⟨g, cap, by rw [List.length_reverse], by rw [List.length_reverse]; exact hc, hg, Nat.lt_of_lt_of_le hlt k2.size, k1, flatP_len _⟩, k2.mono fun b _ (e : b = g) => by show base ≤ b; omega⟩
set_option maxRecDepth 100000 in
theorem ins_none (w : World) : Calls Tryz.prog 121 #[.slice none 0 0, .int .i64 0, .int .i64 0, .func (.func 79) #[] #[]] w fun e w' => e = .returned (.tuple #[]) ∧ w' = w := by
  go_enter Tryz.func121, Tryz.ntmps121
  go_wp2
  go_loopg [8] 0 (fun kx s8 wr => s8 = .int .i64 1 ∧ wr = w)
  case atStart => exact ⟨rfl, rfl⟩
  case round =>
    obtain ⟨rfl, rfl⟩ := hrel
    go_wp2
    go_end0
    exact ⟨rfl, rfl⟩
set_option maxRecDepth 100000 in
theorem stab_none (w : World) : Calls Tryz.prog 104 #[.slice none 0 0, .int .i64 0, .func (.func 79) #[] #[]] w fun e w' => e = .returned (.tuple #[]) ∧ w' = w := by
  have hin := ins_none w
  go_enter Tryz.func104, Tryz.ntmps104
  go_wp2
  go_loopg [7, 8] 0 (fun kx s7 s8 wr => s7 = .int .i64 0 ∧ s8 = .int .i64 20 ∧ wr = w)
  case atStart => exact ⟨rfl, rfl, rfl⟩
  case round =>
    obtain ⟨rfl, rfl, rfl⟩ := hrel
    go_wp2_with (go_at_call 121; refine hin.mono ?_; rintro e w2 ⟨rfl, rfl⟩)
    go_loopg [6, 7, 8] 0 (fun kx s6 s7 s8 wr => s6 = .int .i64 20 ∧ s7 = .int .i64 0 ∧ s8 = .int .i64 20 ∧ wr = w2)
    case atStart => exact ⟨rfl, rfl, rfl, rfl⟩
    case round =>
      obtain ⟨rfl, rfl, rfl, rfl⟩ := hrel
      go_wp2
      go_end0
      exact ⟨rfl, rfl⟩
set_option maxRecDepth 100000 in
theorem stable_none (w : World) : Calls Tryz.prog 78 #[.slice none 0 0, .func (.func 79) #[] #[]] w fun e w' => e = .returned (.tuple #[]) ∧ w' = w := by
  have hin := stab_none w
  go_enter Tryz.func78, Tryz.ntmps78
  go_wp2_with (go_at_call 104; refine hin.mono ?_; rintro e w2 ⟨rfl, rfl⟩)
  go_end0
  exact ⟨rfl, rfl⟩
theorem sortQ (ps : List (V × V)) (v : Value) (base : Nat) (w : World) (S : Nat → Prop) (hS : ∀ b, S b → b < base) (h : RowQ w base S ps v) (hn : ps.length ≤ 65536) :
    Calls Tryz.prog 78 #[v, .func (.func 79) #[] #[]] w fun e w' => e = .returned (.tuple #[]) ∧ ∃ ps', ps'.Perm ps ∧ SortedK ps' ∧ RowQ w' base S ps' v ∧ But (fun b => base ≤ b) w w' := by
  rcases rowQ_cases h with ⟨rfl, rfl⟩ | ⟨g, cap, rfl, hc, hg, hlt, hR⟩
  · refine (stable_none w).mono ?_
    rintro e w' ⟨rfl, rfl⟩
    exact ⟨rfl, [], .refl _, List.Pairwise.nil, rowQ_nil rfl, But.of (Below.refl _ _)⟩
  · refine (sortP_calls ps g cap w S (fun b hb e => by have := hS b hb; omega) hR hlt hn).mono ?_
    rintro e w' ⟨rfl, ps', hp, hs, hR', hB⟩
    have hle := hp.length_eq
    exact ⟨rfl, ps', hp, hs, .inr ⟨g, cap, by rw [hle], by rw [hle]; exact hc, hg, Nat.lt_of_lt_of_le hlt hB.size, hR', flatP_len _⟩, hB.mono fun b _ (e : b = g) => by show base ≤ b; omega⟩
set_option maxRecDepth 100000 in
theorem compactP_none (w : World) :
    Calls Tryz.prog 81 #[.slice none 0 0, .func (.func 82) #[] #[]] w fun e w' => e = .returned (.slice none 0 0) ∧ Below w.heap.size w w' := by
  go_enter Tryz.func81, Tryz.ntmps81
  go_wp2_with fail
  go_ret
  exact ⟨rfl, Below.refl _ _⟩
theorem compactQ (ps : List (V × V)) (v : Value) (base : Nat) (w : World) (S : Nat → Prop) (hS : ∀ b, S b → b < base) (h : RowQ w base S ps v) (hn : ps.length ≤ 65536) :
    Calls Tryz.prog 81 #[v, .func (.func 82) #[] #[]] w fun e w' => ∃ ps2 v2, e = .returned v2 ∧ RowQ w' base S ps2 v2 ∧ But (fun b => base ≤ b) w w' ∧ ((ApartK ps ∧ ps2 = ps) ∨ (¬ ApartK ps ∧ ps2.length < ps.length)) := by
  rcases rowQ_cases h with ⟨rfl, rfl⟩ | ⟨g, cap, rfl, hc, hg, hlt, hR⟩
  · refine (compactP_none w).mono ?_
    rintro e w' ⟨rfl, hb⟩
    exact ⟨[], _, rfl, rowQ_nil rfl, But.of hb, .inl ⟨fun i hi => by simp at hi, rfl⟩⟩
  · refine (compactP_calls ps g cap w S (fun b hb e => by have := hS b hb; omega) hR hlt hn hc).mono ?_
    rintro e w' ⟨ps2, rfl, hR', hB, hc2⟩
    have hle : ps2.length ≤ ps.length := by
      rcases hc2 with ⟨_, rfl⟩ | ⟨_, h⟩
      · exact Nat.le_refl _
      · exact Nat.le_of_lt h
    exact ⟨ps2, _, rfl, .inr ⟨g, cap, rfl, by omega, hg, Nat.lt_of_lt_of_le hlt hB.size, hR', flatP_len _⟩, hB.mono fun b _ (e : b = g) => by show base ≤ b; omega, hc2⟩
end Go.Proofs.YtoiipdknamgcmaaGreatDoor
