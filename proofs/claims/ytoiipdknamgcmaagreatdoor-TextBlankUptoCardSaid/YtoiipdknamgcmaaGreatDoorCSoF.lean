/- A sorted row is the sorted row. A copy sorted and freed of neighbours that are one. A value of any kind made. -/
import Derived.Shelf.SlSortCmp.NoneTotal
import Derived.Test.YtoiipdknamgcmaaGreatDoorCSoE
import Derived.Test.YtoiipdknamgcmaaGreatDoorCSoA
import Derived.Test.YtoiipdknamgcmaaGreatDoorCRdA
import Derived.Test.YtoiipdknamgcmaaGreatDoorCValF
/- A sorted row is the sorted row. -/
set_option linter.unusedVariables false
set_option linter.unusedSimpArgs false
namespace Go.Proofs.YtoiipdknamgcmaaGreatDoor
open Go.RowKit

theorem sgn_zero {a b : Int} (h : sgn a b = 0) : a = b := by
  unfold sgn at h
  split at h
  · omega
  · split at h
    · omega
    · omega
theorem cmpB_zero {a b : ByteArray} (h : cmpB a b = 0) : a = b := by
  unfold cmpB at h
  rw [compareBytes_less] at h
  split at h
  · omega
  · split at h
    · rename_i h2
      have h3 : a.data.toList = b.data.toList := by simpa using h2
      exact ByteArray.ext (Array.toList_inj.1 h3)
    · omega
theorem bytes_none {a b : ByteArray} (h : a.size = 0) (k : b.size = 0) : a = b := by
  have h1 : a.data.size = 0 := h
  have k1 : b.data.size = 0 := k
  exact ByteArray.ext (by rw [Array.size_eq_zero_iff.1 h1, Array.size_eq_zero_iff.1 k1])
theorem plain_parts {k n : Int} {t : ByteArray} (h : plainK k n t = true) : (k ≠ 3 → t.size = 0) ∧ (k ≠ 2 → k ≠ 1 → n = 0) := by
  unfold plainK at h
  split at h
  · cases h
  · rename_i hc
    exact ⟨fun h3 => Classical.byContradiction fun h4 => hc (.inl ⟨h3, h4⟩), fun h2 h1 => Classical.byContradiction fun h4 => hc (.inr ⟨h2, h1, h4⟩)⟩
theorem form_none {k : Int} {l : List V} (h : formK k l = true) (h4 : k ≠ 4) (h5 : k ≠ 5) (h6 : k ≠ 6) : l = [] := by
  unfold formK at h
  rw [if_neg h4, if_neg h6, if_neg h5] at h
  exact List.length_eq_zero_iff.1 (by simpa using h)
mutual
theorem cmpV_zero : ∀ (x y : V), okAll x = true → okAll y = true → cmpV x y = 0 → x = y
  | .mk k n t l, .mk k' n' t' l', hx, hy, h => by
    rw [okAll, Bool.and_eq_true] at hx hy
    obtain ⟨hx1, hx2⟩ := hx
    obtain ⟨hy1, hy2⟩ := hy
    have px : plainK k n t = true ∧ formK k l = true := by
      have : (plainK k n t && formK k l) = true := hx1
      rwa [Bool.and_eq_true] at this
    have py : plainK k' n' t' = true ∧ formK k' l' = true := by
      have : (plainK k' n' t' && formK k' l') = true := hy1
      rwa [Bool.and_eq_true] at this
    rw [cmpV] at h
    by_cases hk : k = k'
    · subst hk
      rw [if_pos rfl] at h
      obtain ⟨x1, x2⟩ := plain_parts px.1
      obtain ⟨y1, y2⟩ := plain_parts py.1
      by_cases c1 : k = 1 ∨ k = 2
      · rw [if_pos c1] at h
        rw [sgn_zero h, bytes_none (x1 (by omega)) (y1 (by omega)), form_none px.2 (by omega) (by omega) (by omega), form_none py.2 (by omega) (by omega) (by omega)]
      · rw [if_neg c1] at h
        have hn : n = n' := by rw [x2 (by omega) (by omega), y2 (by omega) (by omega)]
        by_cases c3 : k = 3
        · rw [if_pos c3] at h
          rw [hn, cmpB_zero h, form_none px.2 (by omega) (by omega) (by omega), form_none py.2 (by omega) (by omega) (by omega)]
        · rw [if_neg c3] at h
          rw [hn, bytes_none (x1 c3) (y1 c3)]
          by_cases c4 : k = 4 ∨ k = 5 ∨ k = 6
          · rw [if_pos c4] at h
            rw [cmpL_zero l l' hx2 hy2 h]
          · rw [form_none px.2 (by omega) (by omega) (by omega), form_none py.2 (by omega) (by omega) (by omega)]
    · rw [if_neg hk] at h
      exact absurd (sgn_zero h) hk
theorem cmpL_zero : ∀ (a b : List V), okAlls a = true → okAlls b = true → cmpL a b = 0 → a = b
  | [], [], _, _, _ => rfl
  | [], _ :: _, _, _, h => by simp [cmpL] at h
  | _ :: _, [], _, _, h => by simp [cmpL] at h
  | x :: xs, y :: ys, ha, hb, h => by
    rw [okAlls, Bool.and_eq_true] at ha hb
    rw [cmpL_cons] at h
    by_cases hc : cmpV x y = 0
    · rw [if_pos hc] at h
      rw [cmpV_zero x y ha.1 hb.1 hc, cmpL_zero xs ys ha.2 hb.2 h]
    · rw [if_neg hc] at h
      exact absurd h hc
end
theorem right_all {x : V} (h : rightB x = true) : okAll x = true := by
  unfold rightB okIn at h
  exact (of_decide_eq_true h).1
theorem insV_perm (x : V) : ∀ l : List V, (insV x l).Perm (x :: l)
  | [] => .refl _
  | y :: l => by
    rw [insV]
    split
    · exact .refl _
    · exact ((insV_perm x l).cons y).trans (.swap x y l)
theorem sortV_perm : ∀ l : List V, (sortV l).Perm l
  | [] => .refl _
  | x :: l => by rw [sortV]; exact (insV_perm x (sortV l)).trans ((sortV_perm l).cons x)
theorem insV_sorted (x : V) : ∀ l : List V, SortedV l → SortedV (insV x l)
  | [], _ => by simp [insV, SortedV]
  | y :: l, h => by
    rw [SortedV, List.pairwise_cons] at h
    rw [insV]
    split
    · rename_i hc
      rw [SortedV, List.pairwise_cons]
      refine ⟨fun z hz => ?_, by rw [List.pairwise_cons]; exact h⟩
      rcases List.mem_cons.1 hz with rfl | hz
      · exact hc
      · exact (cmpV_tri x y z hc (h.1 z hz)).1
    · rename_i hc
      rw [SortedV, List.pairwise_cons]
      refine ⟨fun z hz => ?_, insV_sorted x l h.2⟩
      rcases List.mem_cons.1 ((insV_perm x l).mem_iff.1 hz) with rfl | hz
      · have := cmpV_flip z y; omega
      · exact h.1 z hz
theorem sortV_sorted : ∀ l : List V, SortedV (sortV l)
  | [] => by simp [sortV, SortedV]
  | x :: l => by rw [sortV]; exact insV_sorted x _ (sortV_sorted l)
theorem sorted_one : ∀ a b : List V, (∀ x ∈ a, rightB x = true) → a.Perm b → SortedV a → SortedV b → a = b
  | [], b, _, h, _, _ => by rw [h.nil_eq]
  | x :: a, [], _, h, _, _ => by have := h.length_eq; simp at this
  | x :: a, y :: b, hr, h, ha, hb => by
    rw [SortedV, List.pairwise_cons] at ha hb
    have hxy : x = y := by
      have hx : x ∈ y :: b := h.mem_iff.1 List.mem_cons_self
      have hy : y ∈ x :: a := h.mem_iff.2 List.mem_cons_self
      rcases List.mem_cons.1 hx with e | hx
      · exact e
      rcases List.mem_cons.1 hy with e | hy
      · exact e.symm
      have h1 := ha.1 y hy
      have h2 := hb.1 x hx
      have h3 := cmpV_flip x y
      exact cmpV_zero x y (right_all (hr x List.mem_cons_self)) (right_all (hr y (List.mem_cons_of_mem _ hy))) (by omega)
    subst hxy
    rw [sorted_one a b (fun z hz => hr z (List.mem_cons_of_mem _ hz)) h.cons_inv ha.2 hb.2]
theorem sort_eq {l l' : List V} (hr : rightsB l = true) (hp : l'.Perm l) (hs : SortedV l') : l' = sortV l := by
  have h : ∀ x ∈ l, rightB x = true := by simpa [rightsB] using hr
  exact sorted_one l' (sortV l) (fun x hx => h x (hp.mem_iff.1 hx)) (hp.trans (sortV_perm l).symm) hs (sortV_sorted l)
theorem asc_apart : ∀ (n i : Nat) (l : List V), l.length ≤ i + n → ascFrom 0 l i = true → ∀ j, i ≤ j → j < l.length → cmpV (itemAt l (j - 1)) (itemAt l j) < 0
  | 0, i, l, hn, h, j, hi, hj => by omega
  | n + 1, i, l, hn, h, j, hi, hj => by
    have hil : i < l.length := by omega
    by_cases hc : 0 ≤ cmpV (itemAt l (i - (0 + 1))) (itemAt l i)
    · rw [ascFrom_bad hil hc] at h; cases h
    · have hc2 : cmpV (itemAt l (i - (0 + 1))) (itemAt l i) < 0 := by omega
      rw [Nat.zero_add] at hc
      by_cases e : i = j
      · subst e; omega
      · rw [ascFrom_good hil hc2] at h
        exact asc_apart n (i + 1) l (by omega) h j (by omega) hj
theorem set_apart {l : List V} (h : rightB (V.set l) = true) : Apart l := by
  have h1 := right_all h
  rw [okAll_eq, Bool.and_eq_true] at h1
  have h2 := ((ok_5 0 _ l).1 h1.1).2.2
  intro i hi
  have h3 := asc_apart l.length 1 l (by omega) h2 (i + 1) (by omega) hi
  rw [Nat.add_sub_cancel] at h3
  have h4 := cmpV_flip (itemAt l (i + 1)) (itemAt l i)
  omega
theorem set_nil_right : rightB (V.set []) = true := by
  unfold rightB
  rw [decide_eq_true_iff]
  refine ⟨?_, by simp [V.set, depthV, depthL], by simp [V.set, V.size, V.sizes]⟩
  rw [okAll_eq, Bool.and_eq_true]
  exact ⟨(ok_5 0 _ []).2 ⟨rfl, rfl, ascFrom_end (by simp)⟩, rfl⟩
theorem listOk_iff (l : List V) : listOk l = true ↔ listE l = 0 := by
  unfold listOk listE rightsB
  by_cases h : 65536 < l.length
  · rw [if_pos h]; simp; omega
  · rw [if_neg h]
    by_cases h2 : l.all rightB = true
    · rw [if_pos h2, h2]; simp; omega
    · rw [if_neg h2]; simp at h2 ⊢; intro _; exact h2
theorem listE_short {l : List V} (h : listE l = 0) : l.length ≤ 65536 ∧ rightsB l = true := by
  unfold listE at h
  split at h
  · omega
  · split at h
    · exact ⟨by omega, by assumption⟩
    · omega
end Go.Proofs.YtoiipdknamgcmaaGreatDoor

/- A copy sorted and freed of neighbours that are one. -/
set_option linter.unusedVariables false
set_option linter.unusedSimpArgs false
namespace Go.Proofs.YtoiipdknamgcmaaGreatDoor
open Go.RowKit Go.Shelf
attribute [local go_sem] lt_succ_of

/-- A slice of the call's own: nil, or a row at the beginning of a block. -/
def RowO (w : World) (base : Nat) (S : Nat → Prop) (l : List V) (v : Value) : Prop :=
  (l = [] ∧ v = .slice none 0 0) ∨ ∃ g cap, v = .slice (some ⟨g, 0, none⟩) l.length cap ∧ l.length ≤ cap ∧ base ≤ g ∧ g < w.heap.size ∧ RowV w g S l
theorem OwnL.rowO {w : World} {base : Nat} {S : Nat → Prop} {l : List V} {v : Value} (h : OwnL w base S l v) : RowO w base S l v := by
  obtain ⟨xs, ⟨h1, h2⟩, h3⟩ := h
  rcases h2 with ⟨rfl, h2⟩ | ⟨g, cap, cur, rfl, hg, hh, hc, hm, hs, ht⟩
  · exact .inl ⟨List.length_eq_zero_iff.1 h2, rfl⟩
  · refine .inr ⟨g, cap, rfl, hc, hg, (Array.getElem?_eq_some_iff.1 hh).1, xs, h3.keep (Keeps.weak fun b hb => hb.1), fun j u hj => ?_⟩
    have h5 : cur.toList[j]? = some u := by
      rw [← ht] at hj
      rw [List.getElem?_take] at hj
      split at hj
      · exact hj
      · cases hj
    refine ⟨by simp only [World.cell?, hh]; simpa using h5, free4 hh j⟩
theorem RowO.is {w : World} {base : Nat} {S S' : Nat → Prop} {l : List V} {v : Value} (h : RowO w base S l v) (hl : l.length ≤ 4294967296) (hs : ∀ b, S b → S' b) (hb : ∀ b, base ≤ b → S' b) : IsS w S' l v := by
  rcases h with ⟨rfl, rfl⟩ | ⟨g, cap, rfl, hc, hg, hlt, hR⟩
  · exact ⟨none, 0, rfl, Nat.le_refl _, Nat.zero_le _, .inl rfl⟩
  · refine ⟨_, cap, rfl, hc, hl, hR.la.keep (Keeps.weak fun b h => ?_)⟩
    rcases h with h | rfl
    · exact hs b h
    · exact hb _ hg
theorem RowO.keep {w w' : World} {base : Nat} {S : Nat → Prop} {l : List V} {v : Value} (h : RowO w base S l v) (hS : ∀ b, S b → b < base) (hb : Below w.heap.size w w') : RowO w' base S l v := by
  rcases h with h | ⟨g, cap, rfl, hc, hg, hlt, hR⟩
  · exact .inl h
  · exact .inr ⟨g, cap, rfl, hc, hg, Nat.lt_of_lt_of_le hlt hb.size, hR.keep (fun b h e => by have := hS b h; omega) hb⟩
theorem sortO (l : List V) (v : Value) (base : Nat) (w : World) (S : Nat → Prop) (hS : ∀ b, S b → b < base) (h : RowO w base S l v) (hl : l.length ≤ 65536) :
    Calls Tryz.prog 87 #[v, .func (.func 80) #[] #[]] w fun e w' => e = .returned (.tuple #[]) ∧ ∃ l', l'.Perm l ∧ SortedV l' ∧ RowO w' base S l' v ∧ But (fun b => base ≤ b) w w' := by
  rcases h with ⟨rfl, rfl⟩ | ⟨g, cap, rfl, hc, hg, hlt, hR⟩
  · refine (AnyF.slices_SortFunc_none Tryz.sortV none 0 (.func (.func 80) #[] #[]) w).mono ?_
    rintro e w' ⟨rfl, rfl⟩
    exact ⟨rfl, [], .refl _, List.Pairwise.nil, .inl ⟨rfl, rfl⟩, But.of (Below.refl _ _)⟩
  · by_cases h0 : l.length = 0
    · obtain rfl := List.length_eq_zero_iff.1 h0
      refine (AnyF.slices_SortFunc_none Tryz.sortV (some ⟨g, 0, none⟩) cap (.func (.func 80) #[] #[]) w).mono ?_
      rintro e w' ⟨rfl, rfl⟩
      exact ⟨rfl, [], .refl _, List.Pairwise.nil, .inr ⟨g, cap, rfl, hc, hg, hlt, hR⟩, But.of (Below.refl _ _)⟩
    · refine (sort_calls l g cap w S (fun b h e => by have := hS b h; omega) hR hlt hl).mono ?_
      rintro e w' ⟨rfl, l', hp, hs, hR', hB⟩
      have hle := hp.length_eq
      exact ⟨rfl, l', hp, hs, .inr ⟨g, cap, by rw [hle], by rw [hle]; exact hc, hg, Nat.lt_of_lt_of_le hlt hB.size, hR'⟩, hB.mono fun b _ (e : b = g) => by show base ≤ b; omega⟩
set_option maxRecDepth 100000 in
theorem compact_none (w : World) :
    Calls Tryz.prog 88 #[.slice none 0 0, .func (.func 83) #[] #[]] w fun e w' => e = .returned (.slice none 0 0) ∧ Below w.heap.size w w' := by
  go_enter Tryz.func88, Tryz.ntmps88
  go_wp2_with fail
  go_ret
  exact ⟨rfl, Below.refl _ _⟩
theorem compactO (l : List V) (v : Value) (base : Nat) (w : World) (S : Nat → Prop) (hS : ∀ b, S b → b < base) (h : RowO w base S l v) (hl : l.length ≤ 65536) :
    Calls Tryz.prog 88 #[v, .func (.func 83) #[] #[]] w fun e w' => ∃ l2 v2, e = .returned v2 ∧ RowO w' base S l2 v2 ∧ But (fun b => base ≤ b) w w' ∧ ((Apart l ∧ l2 = l) ∨ (¬ Apart l ∧ l2.length < l.length)) := by
  rcases h with ⟨rfl, rfl⟩ | ⟨g, cap, rfl, hc, hg, hlt, hR⟩
  · refine (compact_none w).mono ?_
    rintro e w' ⟨rfl, hb⟩
    exact ⟨[], _, rfl, .inl ⟨rfl, rfl⟩, But.of hb, .inl ⟨fun i hi => by simp at hi, rfl⟩⟩
  · refine (compact_calls l g cap w S (fun b h e => by have := hS b h; omega) hR hlt hl hc).mono ?_
    rintro e w' ⟨l2, rfl, hR', hB, hc2⟩
    have hle : l2.length ≤ l.length := by
      rcases hc2 with ⟨_, rfl⟩ | ⟨_, h⟩
      · exact Nat.le_refl _
      · exact Nat.le_of_lt h
    exact ⟨l2, _, rfl, .inr ⟨g, cap, rfl, by omega, hg, Nat.lt_of_lt_of_le hlt hB.size, hR'⟩, hB.mono fun b _ (e : b = g) => by show base ≤ b; omega, hc2⟩
end Go.Proofs.YtoiipdknamgcmaaGreatDoor

/- A value of any kind made. -/
set_option linter.unusedVariables false
set_option linter.unusedSimpArgs false
namespace Go.Proofs.YtoiipdknamgcmaaGreatDoor
open Go.RowKit Go.Shelf
attribute [local go_sem] lt_succ_of

theorem zero_bd : V.Bd V.zero := ⟨by simp [V.zero, V.kind], by simp [V.zero, V.kind], by simp [V.zero, V.num], by simp [V.zero, V.num], Nat.zero_le _, by simp [V.zero, V.items]⟩
theorem zero_is (w : World) (S : Nat → Prop) : IsV w S V.zero (.agg #[.int .i64 0, .int .i64 0, .string ⟨#[]⟩, .slice none 0 0]) :=
  IsV.mk (x := V.zero) (cap := 0) (A := none) zero_bd (by simp [V.zero, V.items]) (.inl rfl)
def V.kd (K : Int) (l : List V) : V := .mk K 0 ⟨#[]⟩ l
theorem kd_is {w : World} {S : Nat → Prop} {K : Int} (hK : 0 ≤ K ∧ K ≤ 6) {l : List V} {A : Option Addr} {cap : Nat} (hl : l.length ≤ 4294967296) (hc : l.length ≤ cap) (h : LA w S l A) : IsV w S (V.kd K l) (.agg #[.int .i64 K, .int .i64 0, .string ⟨#[]⟩, .slice A l.length cap]) :=
  IsV.mk (x := V.kd K l) ⟨by simp [V.kd, V.kind]; omega, by simp [V.kd, V.kind]; omega, by simp [V.kd, V.num], by simp [V.kd, V.num], Nat.zero_le _, hl⟩ hc h
set_option maxRecDepth 100000 in
theorem made_kind (K : Int) (hK : 0 ≤ K ∧ K ≤ 6) (l : List V) (vl : Value) (w : World) (S : Nat → Prop) (hl : IsS w S l vl) (hT : Lib.Utf8Tabs 1 2 w) :
    Calls Tryz.prog 84 #[.int .i64 K, vl] w fun e w' => ∃ v, e = .returned (.tuple #[v, .int .i64 (if rightB (V.kd K l) = true then 0 else 2)]) ∧ IsV w' (fun b => w.heap.size ≤ b) (if rightB (V.kd K l) = true then V.kd K l else V.zero) v ∧ Below w.heap.size w w' := by
  obtain ⟨A, ca, rfl, hca, hla, hA⟩ := hl
  obtain ⟨w1, hw1, hB1, hsz, hb0, hb1⟩ := boxes2 w (.int .i64 0) (.int .i64 0) (.string ⟨#[]⟩) (.slice none 0 0) (.int .i64 K) (.int .i64 0) (.string ⟨#[]⟩) (.slice A l.length ca) 24
  have hX := kd_is hK hla hca hA
  have HR := right_calls _ _ w1 S (hX.below hB1) (tabs_below hT hB1)
  have HO := fun (w' : World) (hb' : Below w1.heap.size w1 w') => own_calls _ _ w' S (hX.below (below_then hB1 hB1.size hb'))
  have HO := Lib.hid HO
  clear hX hT
  obtain ⟨a0, a1, a2, a3⟩ := block4 hb1
  obtain ⟨e0, e1, e2, e3⟩ := block4 hb0
  have HB0 := Lib.hid hb0
  clear hb0 hb1
  cases hr : rightB (V.kd K l) with
  | true =>
    rw [hr] at HR
    have HR := Lib.hid HR
    clear hr
    rw [if_pos rfl, if_pos rfl]
    go_enter Tryz.func84, Tryz.ntmps84
    go_wp2_with (first | (go_at_call 26; refine HR.out.mono ?_; rintro e w2 ⟨rfl, hb2⟩; have a0' := cellB hb2 a0; have a1' := cellB hb2 a1; have a2' := cellB hb2 a2; have a3' := cellB hb2 a3; clear a0 a1 a2 a3) | (go_at_call 109; refine (HO.out _ hb2).mono ?_; rintro e w3 ⟨v, rfl, hv, hb3⟩; obtain ⟨hbv, A2, cap2, rfl, hc2, hLA2⟩ := hv.eq; have f0 := cellB hb3 (cellB hb2 e0); have f1 := cellB hb3 (cellB hb2 e1); have f2 := cellB hb3 (cellB hb2 e2); have f3 := cellB hb3 (cellB hb2 e3); have fz := free4 (blockB hb3 (blockB hb2 HB0.out)); clear e0 e1 e2 e3))
    refine bodyPost_ret (v := .tuple #[.agg #[.int .i64 K, .int .i64 0, .string ⟨#[]⟩, .slice A2 l.length cap2], .int .i64 0]) (by simp [results, Tryz.results84, go_sem, f0, f1, f2, f3]; exact ⟨rfl, rfl, rfl, rfl⟩) rfl ⟨_, rfl, ?_, ?_⟩
    · have hn : ∀ b, b < w2.heap.size → ¬ (fun b => w2.heap.size ≤ b) b := fun b h (h' : w2.heap.size ≤ b) => by omega
      have hs2 := hb2.size
      refine (IsV.keep (S' := fun b => w2.heap.size ≤ b) ?_ hv).keep (Keeps.weak fun b (h : w2.heap.size ≤ b) => show w.heap.size ≤ b by omega)
      repeat refine Keeps.set_after ?_ (hn _ (by simp; omega)) _
      exact Keeps.refl _ _
    · repeat refine Below.setCell ?_ (by simp) _
      exact below_then hB1 hB1.size (below_then hb2 hb2.size hb3)
  | false =>
    rw [hr] at HR
    have HR := Lib.hid HR
    clear hr
    rw [if_neg (by decide), if_neg (by decide)]
    go_enter Tryz.func84, Tryz.ntmps84
    go_wp2_with (go_at_call 26; refine HR.out.mono ?_; rintro e w2 ⟨rfl, hb2⟩; have f0 := cellB hb2 e0; have f1 := cellB hb2 e1; have f2 := cellB hb2 e2; have f3 := cellB hb2 e3; have fz := free4 (blockB hb2 HB0.out); clear e0 e1 e2 e3)
    refine bodyPost_ret (v := .tuple #[.agg #[.int .i64 0, .int .i64 0, .string ⟨#[]⟩, .slice none 0 0], .int .i64 2]) (by simp [results, Tryz.results84, go_sem, f0, f1, f2, f3]) rfl ⟨_, rfl, zero_is _ _, ?_⟩
    repeat refine Below.setCell ?_ (by simp) _
    exact below_then hB1 hB1.size hb2
end Go.Proofs.YtoiipdknamgcmaaGreatDoor
