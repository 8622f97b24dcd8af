/- The full hash of a value. The full hash of a value, by its kind. The full hash of a map. -/
import Derived.Test.YtmnblgaefdahhaaGreatDoorCQnC
/- The full hash of a value. -/
set_option linter.unusedVariables false
set_option linter.unusedSimpArgs false
namespace Go.Proofs.YtmnblgaefdahhaaGreatDoor
open Go.RowKit Go.Shelf
attribute [local go_sem] lt_succ_of

/-- Hashes two by two. -/
noncomputable def pairsH : List Int → List Int
  | a :: b :: l => collH ([a, b].foldl stepO 1) 2 :: pairsH l
  | _ => []
mutual
/-- A right value's full hash. -/
noncomputable def fullV : V → Int
  | .mk k n t l =>
    if k = 1 then (if n = 1 then 1231 else 1237)
    else if k = 2 then longH n
    else if k = 3 then intH ((unitsF t 0).foldl stepJ 0)
    else if k = 4 then collH ((fullL l).foldl stepO 1) (fullL l).length
    else if k = 5 then collH ((fullL l).foldl stepA 0) (fullL l).length
    else if k = 6 then collH ((pairsH (fullL l)).foldl stepA 0) (pairsH (fullL l)).length
    else 0
noncomputable def fullL : List V → List Int
  | [] => []
  | x :: xs => fullV x :: fullL xs
end
theorem fullL_map : ∀ l : List V, fullL l = l.map fullV
  | [] => by rw [fullL]; rfl
  | x :: xs => by rw [fullL, fullL_map xs]; rfl
theorem fullL_length (l : List V) : (fullL l).length = l.length := by rw [fullL_map, List.length_map]
noncomputable def entryH (a b : Int) : Int := collH ([a, b].foldl stepO 1) 2
theorem two_le : 2 ≤ 4294967296 := by omega
theorem size_box (w : World) (o : Obj) : (w.alloc o).heap.size = w.heap.size + 1 := by simp
set_option maxRecDepth 100000 in
theorem entry_calls (a b : Int) (w : World) : Calls Tryz.prog 105 #[.int .u32 a, .int .u32 b] w fun e w' => e = .returned (.int .u32 (entryH a b)) ∧ Bd w w' := by
  have hX : IsX eU (w.alloc (.cells #[.int .u32 a, .int .u32 b] 111)) [a, b] (.slice (some ⟨w.heap.size, 0, none⟩) 2 2) := by
    refine ⟨_, 2, rfl, Nat.le_refl _, two_le, .inr ⟨_, rfl, by rw [size_box]; exact Nat.lt_succ_self _, fun i hi => ?_⟩⟩
    refine block_cells (c := [.int .u32 a, .int .u32 b]) (heap_alloc_new w _) i _ ?_ |> fun h => by rwa [Nat.zero_add] at h
    have h2 : i < 2 := hi
    have : i = 0 ∨ i = 1 := by omega
    rcases this with rfl | rfl
    · rfl
    · rfl
  have HC := Lib.hid (ordered_calls [a, b] _ _ hX)
  clear hX
  go_enter Tryz.func105, Tryz.ntmps105
  go_wp2_with (go_at_call 102; refine HC.out.mono ?_; rintro e w2 ⟨rfl, rfl⟩)
  go_ret
  exact ⟨rfl, Bd.box _ _⟩
/-- The contract of full, at values of a size. -/
def FullAt (n : Nat) : Prop := ∀ (x : V), V.size x < n → okAll x = true → ∀ (vx : Value) (w : World) (S : Nat → Prop) (hx : IsV w S x vx),
    Calls Tryz.prog 93 #[vx] w fun e w' => e = .returned (.int .u32 (fullV x)) ∧ Bd w w'
set_option maxRecDepth 100000 in
theorem all_calls (n : Nat) (ih : FullAt n) (l : List V) (hn : ∀ x ∈ l, V.size x < n) (hok : ∀ x ∈ l, okAll x = true) (vl : Value) (w : World) (S : Nat → Prop) (hl : IsS w S l vl) :
    Calls Tryz.prog 103 #[vl] w fun e w' => ∃ v, e = .returned v ∧ IsX eU w' (fullL l) v ∧ Bd w w' := by
  obtain ⟨A, ca, rfl, hca, hla, hA⟩ := hl
  have IH := Lib.hid ih
  have HN := Lib.hid hn
  have HOK := Lib.hid hok
  have hll := fullL_length l
  obtain ⟨F, hF⟩ : ∃ F, fullL l = F := ⟨_, rfl⟩
  have HF : Hid (F = l.map fullV) := Lib.hid (by rw [← hF, fullL_map])
  rw [hF] at hll ⊢
  have HLL := Lib.hid hll
  clear ih hn hok hF hll
  have hsl : F.length ≤ 4294967296 := by have := HLL.out; omega
  go_enter Tryz.func103, Tryz.ntmps103
  go_wp2_with fail
  go_loopw [3, 8] (fun v vi wr => ∃ i : Nat, vi = .int .i64 i ∧ i ≤ l.length ∧ Hid (OwnX 111 eU wr w.heap.size (F.take i) v) ∧ Bd w wr) (fun _ vi _ => l.length - (intOf vi).toNat)
  case atStart => exact ⟨0, rfl, Nat.zero_le _, Lib.hid (OwnX.nil _ _ _ _), Bd.refl _⟩
  case round =>
    obtain ⟨i, rfl, hil, hO, hb⟩ := hrel
    have hA' := hA.below hb.below
    by_cases hlt : i < l.length
    · have hz : (i : Int) < (l.length : Int) := by omega
      obtain ⟨ad, A1, cap1, rfl, hla1, hbd, f0, f1, f2, f3, hl1, hLA⟩ := hA'.at i hlt
      have hX := IsV.mk hbd hl1 hLA
      have HK := Lib.hid (fun (w' : World) (hb' : Bd wr w') => IH.out _ (HN.out _ (itemAt_mem hlt)) (HOK.out _ (itemAt_mem hlt)) _ w' S (hX.below hb'.below))
      have hti : F.take i ++ [fullV (itemAt l i)] = F.take (i + 1) := by
        have h1 : i < F.length := by have := HLL.out; omega
        rw [List.take_succ_eq_append_getElem h1]
        have h2 : F[i]? = some (fullV (itemAt l i)) := by rw [HF.out, List.getElem?_map, itemAt_get hlt]; rfl
        rw [List.getElem?_eq_getElem h1] at h2
        rw [Option.some.inj h2]
      have HTI := Lib.hid hti
      have htl : (F.take i).length = i := by rw [List.length_take]; have := HLL.out; omega
      obtain ⟨A3, c3, hv3, hc3⟩ := hO.out.form
      rw [htl] at hv3 hc3
      subst hv3
      have hii : i ≤ 4294967296 := by omega
      clear hti hX
      go_wp2_with (first
        | (go_at_call 93; refine (HK.out _ (Bd.box _ _)).mono ?_; rintro e w2 ⟨rfl, hb2⟩; have hb3 := hb.trans ((Bd.box _ _).trans hb2); have hO2 := hO.out.below ((Bd.box _ _).trans hb2).below; have HO2 := Lib.hid hO2; have HB3 := Lib.hid hb3; have hs3 := hb3.size; clear hO2 hb3 hb2)
        | (at_builtin; refine append_xd 111 150 eU 4 Tryz.underlying150 _ infoU rfl (by decide) w.heap.size rfl _ _ rfl (.slice A3 i c3) (F.take i) (fullV (itemAt l i)) rfl rfl rfl HO2.out hs3 (by rw [htl]; exact hii) ?_; intro v1 w3 hO3 hg3 hd3; have hB3 := HB3.out.grown hg3 hd3 (fun k hk => (HO2.out.own_lt k hk).1); have HB4 := Lib.hid hB3; have HO3 := Lib.hid hO3; clear hO3 hg3 hd3 hB3))
      go_roundw
      case rel => exact ⟨i + 1, by go_num, by omega, Lib.hid (by rw [← HTI.out]; exact HO3.out), HB4.out⟩
      case measure => simp [intOf]; omega
    · have hz : ¬ (i : Int) < (l.length : Int) := by omega
      have HE : Hid (F.take i = F) := Lib.hid (List.take_of_length_le (by have := HLL.out; omega))
      go_wp2_with fail
      go_ret
      exact ⟨_, rfl, by have h := hO.out; rw [HE.out] at h; exact h.is hsl, hb⟩
end Go.Proofs.YtmnblgaefdahhaaGreatDoor

/- The full hash of a value, by its kind. -/
set_option linter.unusedVariables false
set_option linter.unusedSimpArgs false
namespace Go.Proofs.YtmnblgaefdahhaaGreatDoor
open Go.RowKit Go.Shelf
attribute [local go_sem] lt_succ_of

theorem pairsH_length : ∀ (m : Nat) (l : List Int), l.length = 2 * m → (pairsH l).length = m
  | 0, [], _ => by simp [pairsH]
  | 0, _ :: _, h => by simp at h
  | m + 1, [], h => by simp at h
  | m + 1, [_], h => by simp at h; omega
  | m + 1, a :: b :: l, h => by
    rw [pairsH, List.length_cons, pairsH_length m l (by simp at h; omega)]
theorem pairsH_get : ∀ (j : Nat) (l : List Int) (a b : Int), l[2 * j]? = some a → l[2 * j + 1]? = some b → (pairsH l)[j]? = some (entryH a b)
  | _, [], a, b, h, _ => by simp at h
  | 0, [_], a, b, _, h => by simp at h
  | j + 1, [_], a, b, _, h => by simp at h
  | 0, x :: y :: l, a, b, h, k => by
    simp at h k
    rw [pairsH, h, k]
    rfl
  | j + 1, x :: y :: l, a, b, h, k => by
    rw [pairsH, List.getElem?_cons_succ]
    exact pairsH_get j l a b (by rw [show 2 * (j + 1) = 2 * j + 1 + 1 by omega] at h; simpa using h) (by rw [show 2 * (j + 1) + 1 = 2 * j + 1 + 1 + 1 by omega] at k; simpa using k)
theorem ok_parts {k n : Int} {t : ByteArray} {l : List V} (h : okAll (.mk k n t l) = true) : okB (.mk k n t l) = true ∧ ∀ x ∈ l, okAll x = true := by
  rw [okAll, Bool.and_eq_true] at h
  refine ⟨h.1, ?_⟩
  have h2 := h.2
  clear h
  induction l with
  | nil => intro x hx; cases hx
  | cons y ys ih =>
    rw [okAlls, Bool.and_eq_true] at h2
    intro x hx
    rcases List.mem_cons.1 hx with rfl | hx
    · exact h2.1
    · exact ih h2.2 x hx
theorem size_mem {k n : Int} {t : ByteArray} {l : List V} {x : V} (h : x ∈ l) : V.size x < V.size (.mk k n t l) := by
  have h1 : ∀ l : List V, x ∈ l → V.size x ≤ V.sizes l := by
    intro l
    induction l with
    | nil => intro h; cases h
    | cons y ys ih =>
      intro h
      rw [V.sizes]
      rcases List.mem_cons.1 h with rfl | h
      · omega
      · have := ih h; omega
  have h2 := h1 l h
  rw [V.size]
  omega
set_option maxRecDepth 100000 in
set_option maxHeartbeats 4000000 in
theorem full_plain (n : Nat) (ih : FullAt n) (x : V) (hsz : V.size x < n + 1) (hok : okAll x = true) (h6 : x.kind ≠ 6) (vx : Value) (w : World) (S : Nat → Prop) (hx : IsV w S x vx) :
    Calls Tryz.prog 93 #[vx] w fun e w' => e = .returned (.int .u32 (fullV x)) ∧ Bd w w' := by
  obtain ⟨hbx, A, ca, rfl, hca, hA⟩ := hx.eq
  clear hx
  cases x with
  | mk k m t l =>
  obtain ⟨hkb, hsub⟩ := ok_parts hok
  have hl1 := hbx.l1
  have ht1 := hbx.t1
  simp only [V.kind, V.num, V.text, V.items] at h6 hbx hca hA hl1 ht1 ⊢
  have hns : ∀ y ∈ l, V.size y < n := fun y hy => by have := size_mem (k := k) (n := m) (t := t) hy; omega
  have HS : Hid (∀ v' w', Bd w w' → v' = Value.slice A l.length ca → Calls Tryz.prog 103 #[v'] w' fun e w2 => ∃ v, e = .returned v ∧ IsX eU w2 (fullL l) v ∧ Bd w' w2) := Lib.hid (fun v' w' hb' hv' => all_calls n ih l hns hsub v' w' S ⟨A, ca, hv', hca, hl1, hA.below hb'.below⟩)
  have HLL : Hid ((fullL l).length = l.length) := Lib.hid (fullL_length l)
  obtain ⟨w1, hw1, hB1, hsz1, hb0⟩ := box1d w (.int .i64 k) (.int .i64 m) (.string t) (.slice A l.length ca) 39
  obtain ⟨a0, a1, a2, a3⟩ := block4 hb0
  have HKB := Lib.hid hkb
  clear hb0 hsub hns ih hok hsz hkb hbx hA
  obtain ⟨FX, hFX⟩ : ∃ r, fullV (.mk k m t l) = r := ⟨_, rfl⟩
  rw [hFX]
  rw [fullV] at hFX
  have cs : k = 1 ∨ k = 2 ∨ k = 3 ∨ k = 4 ∨ k = 5 ∨ (k ≠ 1 ∧ k ≠ 2 ∧ k ≠ 3 ∧ k ≠ 4 ∧ k ≠ 5 ∧ k ≠ 6) := by omega
  rcases cs with rfl | rfl | rfl | rfl | rfl | ⟨k1, k2, k3, k4, k5, k6⟩
  · by_cases h1 : m = 1
    · subst h1
      have HF : Hid (FX = 1231) := Lib.hid (by rw [← hFX, if_pos rfl, if_pos rfl])
      clear hFX
      go_enter Tryz.func93, Tryz.ntmps93
      go_wp2_with fail
      go_ret
      exact ⟨by rw [HF.out]; rfl, hB1⟩
    · have h2 : (m == 1) = false := by simpa using h1
      have HF : Hid (FX = 1237) := Lib.hid (by rw [← hFX, if_pos rfl, if_neg h1])
      clear hFX
      go_enter Tryz.func93, Tryz.ntmps93
      go_wp2_with fail
      go_ret
      exact ⟨by rw [HF.out]; rfl, hB1⟩
  · have HF : Hid (FX = longH m) := Lib.hid (by rw [← hFX, if_neg (by decide), if_pos rfl])
    have HC := Lib.hid (longH_calls m)
    clear hFX
    go_enter Tryz.func93, Tryz.ntmps93
    go_wp2_with (go_at_call 98; refine (HC.out _).mono ?_; rintro e w2 ⟨rfl, rfl⟩)
    go_ret
    exact ⟨by rw [HF.out]; rfl, hB1⟩
  · have HF : Hid (FX = intH ((unitsF t 0).foldl stepJ 0)) := Lib.hid (by rw [← hFX, if_neg (by decide), if_neg (by decide), if_pos rfl])
    have hts : t.size ≤ 256 := ((ok_3 m t l).1 HKB.out).2.1
    have HU := Lib.hid (units_calls t w1 hts)
    have HC := Lib.hid (fun x => intH_calls x)
    have HR := Lib.hid (unitsF_range t t.size 0 (by omega))
    clear hFX hts
    go_enter Tryz.func93, Tryz.ntmps93
    go_wp2_with (first
      | (go_at_call 101; refine HU.out.mono ?_; rintro e w2 ⟨v, rfl, hX2, hb2⟩; have HX2 := Lib.hid hX2; clear hX2)
      | (go_at_call 100; refine (java_calls _ _ _ HX2.out HR.out).mono ?_; rintro e w3 ⟨rfl, rfl⟩)
      | (go_at_call 99; refine (HC.out _ _).mono ?_; rintro e w4 ⟨rfl, rfl⟩))
    go_ret
    exact ⟨by rw [HF.out]; rfl, hB1.trans hb2⟩
  · have HF : Hid (FX = collH ((fullL l).foldl stepO 1) (fullL l).length) := Lib.hid (by rw [← hFX, if_neg (by decide), if_neg (by decide), if_neg (by decide), if_pos rfl])
    clear hFX
    go_enter Tryz.func93, Tryz.ntmps93
    go_wp2_with (first
      | (go_at_call 103; refine (HS.out _ _ hB1 rfl).mono ?_; rintro e w2 ⟨v, rfl, hX2, hb2⟩; have HX2 := Lib.hid hX2; clear hX2)
      | (go_at_call 102; refine (ordered_calls _ _ _ HX2.out).mono ?_; rintro e w3 ⟨rfl, rfl⟩))
    go_ret
    exact ⟨by rw [HF.out]; rfl, hB1.trans hb2⟩
  · have HF : Hid (FX = collH ((fullL l).foldl stepA 0) (fullL l).length) := Lib.hid (by rw [← hFX, if_neg (by decide), if_neg (by decide), if_neg (by decide), if_neg (by decide), if_pos rfl])
    clear hFX
    go_enter Tryz.func93, Tryz.ntmps93
    go_wp2_with (first
      | (go_at_call 103; refine (HS.out _ _ hB1 rfl).mono ?_; rintro e w2 ⟨v, rfl, hX2, hb2⟩; have HX2 := Lib.hid hX2; clear hX2)
      | (go_at_call 104; refine (unordered_calls _ _ _ HX2.out).mono ?_; rintro e w3 ⟨rfl, rfl⟩))
    go_ret
    exact ⟨by rw [HF.out]; rfl, hB1.trans hb2⟩
  · have HF : Hid (FX = 0) := Lib.hid (by rw [← hFX, if_neg k1, if_neg k2, if_neg k3, if_neg k4, if_neg k5, if_neg k6])
    have e1 : (k == 1) = false := by simpa using k1
    have e2 : (k == 2) = false := by simpa using k2
    have e3 : (k == 3) = false := by simpa using k3
    have e4 : (k == 4) = false := by simpa using k4
    have e5 : (k == 5) = false := by simpa using k5
    have e6 : (k == 6) = false := by simpa using k6
    clear hFX
    go_enter Tryz.func93, Tryz.ntmps93
    go_wp2_with fail
    go_ret
    exact ⟨by rw [HF.out]; rfl, hB1⟩
end Go.Proofs.YtmnblgaefdahhaaGreatDoor

/- The full hash of a map. -/
set_option linter.unusedVariables false
set_option linter.unusedSimpArgs false
namespace Go.Proofs.YtmnblgaefdahhaaGreatDoor
open Go.RowKit Go.Shelf
attribute [local go_sem] lt_succ_of

set_option maxRecDepth 100000 in
set_option maxHeartbeats 4000000 in
theorem full_map (n : Nat) (ih : FullAt n) (x : V) (hsz : V.size x < n + 1) (hok : okAll x = true) (h6 : x.kind = 6) (vx : Value) (w : World) (S : Nat → Prop) (hx : IsV w S x vx) :
    Calls Tryz.prog 93 #[vx] w fun e w' => e = .returned (.int .u32 (fullV x)) ∧ Bd w w' := by
  obtain ⟨hbx, A, ca, rfl, hca, hA⟩ := hx.eq
  clear hx
  cases x with
  | mk k m t l =>
  obtain ⟨hkb, hsub⟩ := ok_parts hok
  have hl1 := hbx.l1
  have ht1 := hbx.t1
  simp only [V.kind, V.num, V.text, V.items] at h6 hbx hca hA hl1 ht1 ⊢
  subst h6
  have hns : ∀ y ∈ l, V.size y < n := fun y hy => by have := size_mem (k := 6) (n := m) (t := t) hy; omega
  have HS : Hid (∀ v' w', Bd w w' → v' = Value.slice A l.length ca → Calls Tryz.prog 103 #[v'] w' fun e w2 => ∃ v, e = .returned v ∧ IsX eU w2 (fullL l) v ∧ Bd w' w2) := Lib.hid (fun v' w' hb' hv' => all_calls n ih l hns hsub v' w' S ⟨A, ca, hv', hca, hl1, hA.below hb'.below⟩)
  have HLL : Hid ((fullL l).length = l.length) := Lib.hid (fullL_length l)
  obtain ⟨w1, hw1, hB1, hsz1, hb0⟩ := box1d w (.int .i64 6) (.int .i64 m) (.string t) (.slice A l.length ca) 39
  obtain ⟨a0, a1, a2, a3⟩ := block4 hb0
  have HKB := Lib.hid hkb
  clear hb0 hsub hns ih hok hsz hkb hbx hA
  obtain ⟨FX, hFX⟩ : ∃ r, fullV (.mk 6 m t l) = r := ⟨_, rfl⟩
  rw [hFX]
  rw [fullV] at hFX
  have HF : Hid (FX = collH ((pairsH (fullL l)).foldl stepA 0) (pairsH (fullL l)).length) := Lib.hid (by rw [← hFX, if_neg (by decide), if_neg (by decide), if_neg (by decide), if_neg (by decide), if_neg (by decide), if_pos rfl])
  have hev := ((ok_6 m t l).1 HKB.out).2.2.1
  obtain ⟨c, hc⟩ : ∃ c, l.length = 2 * c := ⟨l.length / 2, by omega⟩
  obtain ⟨F, hF⟩ : ∃ F, fullL l = F := ⟨_, rfl⟩
  rw [hF] at HF HLL
  simp only [hF] at HS
  have HFL : Hid (F.length = 2 * c) := Lib.hid (by rw [HLL.out, hc])
  have HPL : Hid ((pairsH F).length = c) := Lib.hid (pairsH_length c F HFL.out)
  have hcb : c ≤ 2147483648 := by omega
  clear hFX hF hev HLL hc
  go_enter Tryz.func93, Tryz.ntmps93
  go_wp2_with (go_at_call 103; refine (HS.out _ _ hB1 rfl).mono ?_; rintro e w2 ⟨v, rfl, hX2, hb2⟩; obtain ⟨FA, fc, rfl, hfc, hfl, hFA⟩ := hX2; have HFA := Lib.hid hFA; clear hFA; have HFC := Lib.hid hfc; clear hfc; have HFB := Lib.hid hfl; clear hfl)
  clear a0 a1 a2 a3 hw1 HS
  have hB2 := hB1.trans hb2
  have HB2 := Lib.hid hB2
  clear hB1 hb2 hB2
  go_loopw [3, 5] (fun v vi wr => ∃ i j : Nat, vi = .int .i64 i ∧ i = 2 * j ∧ j ≤ c ∧ Hid (OwnX 111 eU wr w2.heap.size ((pairsH F).take j) v) ∧ Bd w2 wr) (fun _ vi _ => 2 * c - (intOf vi).toNat)
  case atStart => exact ⟨0, 0, rfl, rfl, Nat.zero_le _, Lib.hid (OwnX.nil _ _ _ _), Bd.refl _⟩
  case round =>
    obtain ⟨i, j, rfl, hij, hjc, hO, hb⟩ := hrel
    by_cases hlt : j < c
    · have hi0 : i < F.length := by have := HFL.out; omega
      have hi1 : i + 1 < F.length := by have := HFL.out; omega
      have hz : (i : Int) < (F.length : Int) := by omega
      have hz1 : (i : Int) + 1 < (F.length : Int) := by omega
      have hz2 : IntKind.i64.wrap ((i : Int) + 1) = (i : Int) + 1 := IntWalk.i64_in _ (by omega)
      have hz3 : ((i : Int) + 1).toNat = i + 1 := by omega
      have hz4 : (0 : Int) ≤ (i : Int) + 1 := by omega
      obtain ⟨ad, had, hlb, hat⟩ := HFA.out.resolve_left (fun e => by rw [e] at hi0; exact absurd hi0 (Nat.not_lt_zero _))
      subst had
      have hc0 := cellD hb (hat i hi0)
      have hc1 := cellD hb (hat (i + 1) hi1)
      unfold eU at hc0 hc1
      obtain ⟨x0, hx0⟩ : ∃ x, F[i]'hi0 = x := ⟨_, rfl⟩
      obtain ⟨x1, hx1⟩ : ∃ x, F[i + 1]'hi1 = x := ⟨_, rfl⟩
      rw [hx0] at hc0
      rw [hx1] at hc1
      rw [show ad.add (i + 1) = ⟨ad.block, ad.off + (i + 1), none⟩ by unfold Addr.add; rw [if_neg (by omega)]] at hc1
      have hTI : (pairsH F).take j ++ [entryH x0 x1] = (pairsH F).take (j + 1) := by
        have h1 : j < (pairsH F).length := by rw [HPL.out]; exact hlt
        have h2 := pairsH_get j F x0 x1 (by rw [← hij, List.getElem?_eq_getElem hi0, hx0]) (by rw [← hij, List.getElem?_eq_getElem hi1, hx1])
        rw [List.take_succ_eq_append_getElem h1]
        rw [List.getElem?_eq_getElem h1] at h2
        rw [Option.some.inj h2]
      have HTI := Lib.hid hTI
      have htl : ((pairsH F).take j).length = j := by rw [List.length_take]; have := HPL.out; omega
      have HTL := Lib.hid htl
      obtain ⟨A3, c3, hv3, hc3⟩ := hO.out.form
      rw [htl] at hv3 hc3
      subst hv3
      have hib : i ≤ 4294967296 := by omega
      have HIJ := Lib.hid hij
      have HJB : Hid (j ≤ 4294967296) := Lib.hid (by omega)
      have HLT := Lib.hid hlt
      have HJC := Lib.hid hjc
      have HE := Lib.hid (entry_calls x0 x1 wr.drew)
      have hO1 := Lib.hid (hO.out.below (Bd.drew wr).below)
      clear hTI hat hx0 hx1 hij hlt hjc htl hi0 hi1
      go_wp2_with fail
      go_region_law (first
        | (go_simp; go_at_call 105; refine HE.out.mono ?_; rintro e w3 ⟨rfl, hb2⟩; have hO2 := hO1.out.below hb2.below; have HO2 := Lib.hid hO2; have HB3 := Lib.hid (hb.trans ((Bd.drew _).trans hb2)); have hs3 := HB3.out.size; clear hO2 hb2)
        | (refine step_xd 111 150 eU 4 Tryz.underlying150 _ infoU rfl (by decide) w2.heap.size rfl (.tmp 48) (.tmp 59) rfl (.slice A3 j c3) ((pairsH F).take j) (entryH x0 x1) (by simp [Act.eval, Act.put]) (by simp [Act.eval, Act.put]) rfl HO2.out hs3 (by rw [HTL.out]; exact HJB.out) ?_; intro v1 w4 hO3 hg3 hd3; have hB3 := HB3.out.grown hg3 hd3 (fun k hk => (HO2.out.own_lt k hk).1); have HB4 := Lib.hid hB3; have HO3 := Lib.hid hO3; clear hO3 hg3 hd3 hB3))
      all_goals go_wp2_with fail
      all_goals
        go_roundw
        case rel => exact ⟨i + 2, j + 1, by go_num, by have := HIJ.out; omega, by have := HLT.out; omega, Lib.hid (by rw [← HTI.out]; exact HO3.out), HB4.out⟩
        case measure => have := HIJ.out; have := HLT.out; simp [intOf]; omega
    · have hz : ¬ (i : Int) < (F.length : Int) := by have := HFL.out; omega
      have HE : Hid ((pairsH F).take j = pairsH F) := Lib.hid (List.take_of_length_le (by have := HPL.out; omega))
      have HPB : Hid ((pairsH F).length ≤ 4294967296) := Lib.hid (by have := HPL.out; omega)
      have hOI := hO.out
      rw [HE.out] at hOI
      have HX := Lib.hid (hOI.is HPB.out)
      clear hOI
      go_wp2_with (go_at_call 104; refine (unordered_calls _ _ _ HX.out).mono ?_; rintro e w3 ⟨rfl, rfl⟩)
      go_ret
      exact ⟨by rw [HF.out]; rfl, HB2.out.trans hb⟩
theorem full_step (n : Nat) (ih : FullAt n) : FullAt (n + 1) := by
  intro x hsz hok vx w S hx
  by_cases h6 : x.kind = 6
  · exact full_map n ih x hsz hok h6 vx w S hx
  · exact full_plain n ih x hsz hok h6 vx w S hx
theorem full_at : ∀ n, FullAt n
  | 0 => fun x h => absurd h (Nat.not_lt_zero _)
  | n + 1 => full_step n (full_at n)
theorem full_calls (x : V) (hok : okAll x = true) (vx : Value) (w : World) (S : Nat → Prop) (hx : IsV w S x vx) :
    Calls Tryz.prog 93 #[vx] w fun e w' => e = .returned (.int .u32 (fullV x)) ∧ Bd w w' := full_at (V.size x + 1) x (Nat.lt_succ_self _) hok vx w S hx
end Go.Proofs.YtmnblgaefdahhaaGreatDoor
