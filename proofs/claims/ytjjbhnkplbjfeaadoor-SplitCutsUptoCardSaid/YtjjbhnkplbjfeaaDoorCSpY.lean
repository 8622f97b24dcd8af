/- Have two deques the same items? A list turned about in its own place. -/
import Derived.Test.YtjjbhnkplbjfeaaDoorCSpS
import Derived.Test.YtjjbhnkplbjfeaaDoorCFnP
/- Have two deques the same items? -/
set_option linter.unusedVariables false
set_option linter.unusedSimpArgs false
namespace Go.Proofs.YtjjbhnkplbjfeaaDoor
open Go.RowKit
attribute [local go_sem] lt_succ_of methWeight methItems

theorem sgn_self (a : Int) : sgn a a = 0 := by unfold sgn; simp
theorem bytes_self : ∀ (l : List UInt8), Lib.compareBytes l l = 0
  | [] => by simp [Lib.compareBytes]
  | x :: xs => by simp [Lib.compareBytes, bytes_self xs]
mutual
theorem cmpV_self : ∀ (x : V), cmpV x x = 0
  | .mk k n t l => by
    rw [cmpV, if_pos rfl, sgn_self, cmpL_self l]
    have : cmpB t t = 0 := by unfold cmpB; exact bytes_self _
    rw [this]
    simp
theorem cmpL_self : ∀ (l : List V), cmpL l l = 0
  | [] => by simp [cmpL]
  | x :: xs => by simp [cmpL, cmpV_self x, cmpL_self xs]
end
def eqC : List V → List V → Bool
  | [], [] => true
  | x :: xs, y :: ys => (cmpV x y == 0) && eqC xs ys
  | _, _ => false
theorem eqC_self : ∀ (l : List V), eqC l l = true
  | [] => rfl
  | x :: xs => by simp [eqC, cmpV_self, eqC_self xs]
theorem eqC_length : ∀ {a b : List V}, a.length ≠ b.length → eqC a b = false
  | [], [], h => absurd rfl h
  | x :: xs, [], _ => rfl
  | [], y :: ys, _ => rfl
  | x :: xs, y :: ys, h => by rw [eqC, eqC_length (a := xs) (b := ys) (by simpa using h), Bool.and_false]
theorem eqC_drop {a b : List V} {i : Nat} (ha : i < a.length) (hb : i < b.length) : eqC (a.drop i) (b.drop i) = ((cmpV (itemAt a i) (itemAt b i) == 0) && eqC (a.drop (i + 1)) (b.drop (i + 1))) := by
  rw [itemAt_drop ha, itemAt_drop hb, eqC]
theorem eqC_drop_end {a b : List V} {i : Nat} (h : a.length = b.length) (ha : a.length ≤ i) : eqC (a.drop i) (b.drop i) = true := by
  rw [List.drop_eq_nil_of_le ha, List.drop_eq_nil_of_le (by omega), eqC]
set_option maxRecDepth 100000 in
theorem veq_calls (x y : V) (vx vy : Value) (w : World) (S S' : Nat → Prop) (hx : IsV w S x vx) (hy : IsV w S' y vy) :
    Calls Tryd.prog 88 #[vx, vy] w fun e w' => e = .returned (.bool (cmpV x y == 0)) ∧ Below w.heap.size w w' := by
  have HX := Lib.hid hx
  have HY := Lib.hid hy
  obtain ⟨_, A, ca, rfl, _, _⟩ := hx.eq
  obtain ⟨_, B, cb, rfl, _, _⟩ := hy.eq
  obtain ⟨w1, hw1, hb1, _, k0, k1⟩ := boxes2 w (.int .i64 x.kind) (.int .i64 x.num) (.string x.text) (.slice A x.items.length ca) (.int .i64 y.kind) (.int .i64 y.num) (.string y.text) (.slice B y.items.length cb) 33
  obtain ⟨x0, x1, x2, x3⟩ := block4 k0
  obtain ⟨y0, y1, y2, y3⟩ := block4 k1
  have HC := Lib.hid (compare_calls x y _ _ w1 S S' (HX.out.below hb1) (HY.out.below hb1))
  clear hx hy k0 k1
  go_enter Tryd.func88, Tryd.ntmps88
  go_wp2_with (go_at_call 109; refine HC.out.mono ?_; rintro e w3 ⟨rfl, hb3⟩)
  go_ret
  exact ⟨rfl, chain_then hb1 hb3⟩
set_option maxRecDepth 100000 in
set_option maxHeartbeats 4000000 in
theorem eqfunc_calls (a b : List V) (va vb : Value) (w : World) (S S' : Nat → Prop) (hA : IsS w S a va) (hB : IsS w S' b vb) :
    Calls Tryd.prog 87 #[va, vb, .func (.func 88) #[] #[]] w fun e w' => e = .returned (.bool (eqC a b)) ∧ Below w.heap.size w w' := by
  obtain ⟨A, ca, rfl, hca, hla, hA⟩ := hA
  obtain ⟨B, cb, rfl, hcb, hlb, hB⟩ := hB
  by_cases h4 : a.length = b.length
  · have k4 : ((a.length : Int) != (b.length : Int)) = false := by simp [h4]
    obtain ⟨EX, hEX⟩ : ∃ b', eqC a b = b' := ⟨_, rfl⟩
    rw [hEX]
    have HE := Lib.hid hEX
    have H4 := Lib.hid h4
    clear hEX h4
    go_enter Tryd.func87, Tryd.ntmps87
    go_wp2_with fail
    go_loopw [17] (fun v wr => ∃ k : Nat, v = .int .i64 k ∧ k ≤ a.length ∧ Hid (eqC (a.drop k) (b.drop k) = EX) ∧ Below w.heap.size w wr) (fun v _ => a.length - (intOf v).toNat)
    case atStart => exact ⟨0, rfl, by omega, Lib.hid HE.out, Below.refl _ _⟩
    case round =>
      obtain ⟨k, rfl, hk, hc, hf⟩ := hrel
      have hA' := hA.below hf
      have hB' := hB.below hf
      clear hA hB HE
      by_cases hlt : k < a.length
      · have hlt2 : k < b.length := by have := H4.out; omega
        obtain ⟨ad, A1, cap1, rfl, hla', hbd, f0, f1, f2, f3, hl, hLA⟩ := hA'.at k hlt
        obtain ⟨bd, B1, cap2, rfl, hlb', hbd', g0, g1, g2, g3, hl', hLA'⟩ := hB'.at k hlt2
        have HX := IsV.mk hbd hl hLA
        have HY := IsV.mk hbd' hl' hLA'
        have HK := fun (w' : World) (hb' : Below wr.heap.size wr w') => veq_calls (itemAt a k) (itemAt b k) _ _ w' S S' (HX.below hb') (HY.below hb')
        have HK := Lib.hid HK
        have hU := eqC_drop hlt hlt2
        rw [hc.out] at hU
        clear HX HY hLA hLA' hbd hbd'
        cases hE : (cmpV (itemAt a k) (itemAt b k) == 0) with
        | true =>
          rw [hE] at hU HK
          have HU : Hid (eqC (a.drop (k + 1)) (b.drop (k + 1)) = EX) := Lib.hid (by rw [hU]; simp)
          clear hU hE
          go_wp2_with (go_at_call 88; go_loud (refine (HK.out _ (((Below.refl _ _).alloc (Nat.le_refl _) _).alloc (by simp) _)).mono ?_); rintro e w3 ⟨rfl, hb3⟩)
          go_roundw
          case rel => exact ⟨k + 1, by go_num, by omega, HU, chain_then hf (chain_then (((Below.refl _ _).alloc (Nat.le_refl _) _).alloc (by simp) _) hb3)⟩
          case measure => simp [intOf]; omega
        | false =>
          rw [hE] at hU HK
          have HU : Hid (EX = false) := Lib.hid (by rw [hU]; simp)
          clear hU hE
          go_wp2_with (go_at_call 88; go_loud (refine (HK.out _ (((Below.refl _ _).alloc (Nat.le_refl _) _).alloc (by simp) _)).mono ?_); rintro e w3 ⟨rfl, hb3⟩)
          go_ret
          exact ⟨ret_b HU.out.symm, chain_then hf (chain_then (((Below.refl _ _).alloc (Nat.le_refl _) _).alloc (by simp) _) hb3)⟩
      · have HU : Hid (EX = true) := Lib.hid (by rw [← hc.out, eqC_drop_end H4.out (by omega)])
        go_wp2_with fail
        go_ret
        exact ⟨ret_b HU.out.symm, hf⟩
  · have k4 : ((a.length : Int) != (b.length : Int)) = true := by simp; omega
    rw [eqC_length h4]
    clear h4
    go_enter Tryd.func87, Tryd.ntmps87
    go_wp2_with fail
    go_ret
    exact ⟨rfl, Below.refl _ _⟩
set_option maxRecDepth 100000 in
set_option maxHeartbeats 4000000 in
theorem dequal_calls (a b : List V) (p q : Option Addr) (w : World) (S S' : Nat → Prop) (ha : IsD w S a p) (hb : IsD w S' b q) :
    Calls Tryd.prog 50 #[.pointer p, .pointer q] w fun e w' => e = .returned (.bool (eqC a b)) ∧ Below w.heap.size w w' := by
  have HW1 := Lib.hid (whole_calls a _ w S ha)
  have HQ := Lib.hid hb
  clear ha hb
  go_enter Tryd.func50, Tryd.ntmps50
  go_wp2_with (first
    | (go_at_call 84; refine HW1.out.mono ?_; rintro e w2 ⟨v2, rfl, hv2, hb2⟩; have HV2 := Lib.hid hv2; clear HW1 hv2)
    | (go_at_call 152; refine (spanitems_calls v2 w2).mono ?_; rintro e w3 ⟨rfl, hb3'⟩; have hb3 := chain_then hb2 hb3'; have HW2 := Lib.hid (whole_calls b _ w3 S' (HQ.out.below hb3)))
    | (go_at_call 84; refine HW2.out.mono ?_; rintro e w4 ⟨v4, rfl, hv4, hb4'⟩; have HV4 := Lib.hid hv4; have hb4 := chain_then hb3 hb4'; clear HW2 hv4)
    | (go_at_call 152; refine (spanitems_calls v4 w4).mono ?_; rintro e w5 ⟨rfl, hb5'⟩; have hb5 := chain_then hb4 hb5'; have HC := Lib.hid (eqfunc_calls a b _ _ w5 _ _ (HV2.out.below (chain_then hb3' (chain_then hb4' hb5'))) (HV4.out.below hb5')))
    | (go_at_call 87; refine HC.out.mono ?_; rintro e w6 ⟨rfl, hb6'⟩; have hb6 := chain_then hb5 hb6'))
  go_ret
  exact ⟨rfl, hb6⟩
end Go.Proofs.YtjjbhnkplbjfeaaDoor

/- A list turned about in its own place. -/
set_option linter.unusedVariables false
set_option linter.unusedSimpArgs false
namespace Go.Proofs.YtjjbhnkplbjfeaaDoor
open Go.RowKit
attribute [local go_sem] lt_succ_of

theorem CsL.nth {w : World} {S : Nat → Prop} : ∀ {l : List V} {xs : List Value} (i : Nat), CsL w S l xs → i < l.length → ∃ p a r, xs = p ++ (a ++ r) ∧ p.length = i * 4 ∧ VC w S (itemAt l i) a
  | x :: l, xs, 0, ⟨a, b, e, ha, hb⟩, _ => ⟨[], a, b, by simpa using e, rfl, ha⟩
  | x :: l, xs, i + 1, ⟨a, b, e, ha, hb⟩, hi => by
    obtain ⟨p, a', r, e', hp, hv⟩ := CsL.nth i hb (by simpa using hi)
    refine ⟨a ++ p, a', r, by rw [e, e']; simp, ?_, ?_⟩
    · have := ha.length
      rw [List.length_append, hp, this]; omega
    · simpa [itemAt] using hv
theorem OwnL.item {w : World} {base : Nat} {S : Nat → Prop} {l : List V} {A : Option Addr} {n cap : Nat} (h : OwnL w base S l (.slice A n cap)) {i : Nat} (hi : i < l.length) :
    ∃ g A1 c1, A = some ⟨g, 0, none⟩ ∧ w.cell? ⟨g, i * 4, none⟩ = some (.int .i64 (itemAt l i).kind) ∧ w.cell? ⟨g, i * 4 + 1, none⟩ = some (.int .i64 (itemAt l i).num) ∧ w.cell? ⟨g, i * 4 + 2, none⟩ = some (.string (itemAt l i).text) ∧ w.cell? ⟨g, i * 4 + 3, none⟩ = some (.slice A1 (itemAt l i).items.length c1) ∧
      VC w (fun b => S b ∧ some b ≠ (Value.slice A n cap).ownBlock) (itemAt l i) [.int .i64 (itemAt l i).kind, .int .i64 (itemAt l i).num, .string (itemAt l i).text, .slice A1 (itemAt l i).items.length c1] := by
  obtain ⟨xs, ⟨h1, h2⟩, h3⟩ := h
  rcases h2 with ⟨_, h2⟩ | ⟨g, cap', cur, e, hg, hh, hc, hm, hs, ht⟩
  · omega
  · obtain ⟨p, a, r, he, hp, hv⟩ := CsL.nth i h3 hi
    obtain ⟨A1, c1, rfl⟩ := hv.cells
    simp only [Value.slice.injEq] at e
    obtain ⟨rfl, rfl, rfl⟩ := e
    obtain ⟨q, hq⟩ : ∃ q, cur = (p ++ Value.int .i64 (itemAt l i).kind :: Value.int .i64 (itemAt l i).num :: Value.string (itemAt l i).text :: Value.slice A1 (itemAt l i).items.length c1 :: (r ++ q)).toArray := by
      refine ⟨cur.toList.drop (l.length * 4), ?_⟩
      have h := List.take_append_drop (l.length * 4) cur.toList
      rw [ht, he] at h
      apply Array.toList_inj.1
      refine h.symm.trans ?_
      simp
    subst hq
    obtain ⟨g0, g1, g2, g3⟩ := cells4 hh hp
    exact ⟨g, A1, c1, rfl, g0, g1, g2, g3, hv⟩
theorem itemAt_set {l : List V} {i p : Nat} {y : V} (hi : i < l.length) (hp : p < l.length) : itemAt (l.set i y) p = if p = i then y else itemAt l p := by
  have h1 := itemAt_get (l := l.set i y) (i := p) (by simpa using hp)
  rw [List.getElem?_set] at h1
  by_cases h : i = p
  · subst h
    rw [if_pos rfl, if_pos hp] at h1
    rw [if_pos rfl]
    exact (Option.some.inj h1).symm
  · rw [if_neg h, itemAt_get hp] at h1
    rw [if_neg (fun e => h e.symm)]
    exact (Option.some.inj h1).symm
theorem itemAt_ext {a b : List V} (h : a.length = b.length) (h2 : ∀ p, p < a.length → itemAt a p = itemAt b p) : a = b := by
  apply List.ext_getElem? 
  intro p
  by_cases hp : p < a.length
  · rw [itemAt_get hp, itemAt_get (by omega), h2 p hp]
  · rw [List.getElem?_eq_none (by omega), List.getElem?_eq_none (by omega)]
theorem itemAt_reverse {l : List V} {p : Nat} (hp : p < l.length) : itemAt l.reverse p = itemAt l (l.length - 1 - p) := by
  have h1 := itemAt_get (l := l.reverse) (i := p) (by simpa using hp)
  rw [List.getElem?_reverse hp, itemAt_get (by omega)] at h1
  exact (Option.some.inj h1).symm
/-- A list of which so many at each end are turned. -/
def Half (l cur : List V) (k : Nat) : Prop := cur.length = l.length ∧ ∀ p, p < l.length → itemAt cur p = if p < k ∨ l.length ≤ p + k then itemAt l (l.length - 1 - p) else itemAt l p
theorem Half.zero (l : List V) : Half l l 0 := ⟨rfl, fun p hp => by rw [if_neg (by omega)]⟩
theorem Half.next {l cur : List V} {k j : Nat} (h : Half l cur k) (hj : j + k + 1 = l.length) (hk : k < j) : Half l ((cur.set k (itemAt cur j)).set j (itemAt cur k)) (k + 1) := by
  obtain ⟨h1, h2⟩ := h
  refine ⟨by simpa using h1, fun p hp => ?_⟩
  rw [itemAt_set (by simp; omega) (by simp; omega), itemAt_set (by omega) (by omega)]
  by_cases e1 : p = j
  · subst e1
    rw [if_pos rfl, if_pos (by omega), h2 k (by omega), if_neg (by omega)]
    congr 1; omega
  · rw [if_neg e1]
    by_cases e2 : p = k
    · subst e2
      rw [if_pos rfl, if_pos (by omega), h2 j (by omega), if_neg (by omega)]
      congr 1; omega
    · rw [if_neg e2, h2 p hp]
      by_cases e3 : p < k ∨ l.length ≤ p + k
      · rw [if_pos e3, if_pos (by omega)]
      · rw [if_neg e3, if_neg (by omega)]
theorem Half.done {l cur : List V} {k : Nat} (h : Half l cur k) (hk : l.length ≤ 2 * k + 1) : cur = l.reverse := by
  obtain ⟨h1, h2⟩ := h
  refine itemAt_ext (by simpa using h1) (fun p hp => ?_)
  rw [itemAt_reverse (by omega), h2 p (by omega)]
  by_cases e : p < k ∨ l.length ≤ p + k
  · rw [if_pos e]
  · rw [if_neg e]
    congr 1; omega
set_option maxRecDepth 100000 in
set_option maxHeartbeats 4000000 in
theorem sreverse_calls (l : List V) (vl : Value) (w : World) (base : Nat) (S : Nat → Prop) (h : OwnL w base S l vl) (hl : l.length ≤ 65536) :
    Calls Tryd.prog 86 #[vl] w fun e w' => (∃ v, e = .returned v) ∧ OwnL w' base S l.reverse vl ∧ ∀ n, n ≤ base → Below n w w' := by
  obtain ⟨A, c, rfl, hc⟩ := h.form
  go_enter Tryd.func86, Tryd.ntmps86
  go_wp2_with fail
  go_loopw [2, 3] (fun vi vj wr => ∃ (k : Nat) (cur : List V), vi = .int .i64 k ∧ vj = .int .i64 ((l.length : Int) - 1 - k) ∧ k ≤ l.length ∧ Hid (Half l cur k) ∧ Hid (OwnL wr base S cur (.slice A l.length c)) ∧ Hid (∀ n, n ≤ base → Below n w wr)) (fun v _ _ => l.length - (intOf v).toNat)
  case atStart => exact ⟨0, l, rfl, by simp, by omega, Lib.hid (Half.zero l), Lib.hid h, Lib.hid fun n _ => Below.refl _ _⟩
  case round =>
    obtain ⟨k, cur, rfl, rfl, hk, hH, hO, hf⟩ := hrel
    have hcl : cur.length = l.length := hH.out.1
    by_cases hlt : (k : Int) < (l.length : Int) - 1 - k
    · obtain ⟨j, hj⟩ : ∃ j : Nat, (l.length : Int) - 1 - k = (j : Int) := ⟨l.length - 1 - k, by omega⟩
      rw [hj] at hlt ⊢
      have hjl : j < l.length := by omega
      have hkl : k < l.length := by omega
      obtain ⟨g, A1, c1, rfl, f0, f1, f2, f3, hv1⟩ := hO.out.item (i := k) (by omega)
      obtain ⟨g', A2, c2, e, g0, g1, g2, g3, hv2⟩ := hO.out.item (i := j) (by omega)
      obtain rfl : g = g' := by simpa using e
      obtain ⟨g'', cap, e2, _, hbg, hgl, _, fz, hS1⟩ := hO.out.store (i := k) (by omega) hv2
      obtain rfl : g = g'' := by simp only [Value.slice.injEq, Option.some.injEq, Addr.mk.injEq] at e2; exact e2.1.1
      have i1 : IntKind.i64.wrap ((j : Int) - 1) = (j : Int) - 1 := IntWalk.i64_in _ (by omega)
      have hk2 : (k : Int) < (l.length : Int) := by omega
      have hj2 : (j : Int) < (l.length : Int) := by omega
      have HV1 := Lib.hid hv1
      have HV2 := Lib.hid hv2
      have HS1 := Lib.hid hS1
      have HJ := Lib.hid hj
      clear hv1 hv2 hS1 e e2 hj
      go_wp2_with fail
      go_region
      have hK1 : Keeps wr (fun b => S b ∧ some b ≠ (Value.slice (some ⟨g, 0, none⟩) l.length c).ownBlock) ((((wr.setCell ⟨g, k * 4, none⟩ (.int .i64 (itemAt cur j).kind)).setCell ⟨g, k * 4 + 1, none⟩ (.int .i64 (itemAt cur j).num)).setCell ⟨g, k * 4 + 2, none⟩ (.string (itemAt cur j).text)).setCell ⟨g, k * 4 + 3, none⟩ (.slice A2 (itemAt cur j).items.length c2)) (fun b => S b ∧ some b ≠ (Value.slice (some ⟨g, 0, none⟩) l.length c).ownBlock) := by
        refine Keeps.set_after (Keeps.set_after (Keeps.set_after (Keeps.set ?_ _) ?_ _) ?_ _) ?_ _ <;> exact fun h => h.2 rfl
      obtain ⟨g3, cap3, e3, _, _, _, _, _, hS2⟩ := HS1.out.store (i := j) (by rw [List.length_set]; omega) (HV1.out.keep hK1)
      obtain rfl : g = g3 := by simp only [Value.slice.injEq, Option.some.injEq, Addr.mk.injEq] at e3; exact e3.1.1
      have hH2 := hH.out.next (j := j) (by have := HJ.out; omega) (by omega)
      obtain ⟨w8, hw8⟩ : ∃ w8, ((((((((wr.setCell ⟨g, k * 4, none⟩ (.int .i64 (itemAt cur j).kind)).setCell ⟨g, k * 4 + 1, none⟩ (.int .i64 (itemAt cur j).num)).setCell ⟨g, k * 4 + 2, none⟩ (.string (itemAt cur j).text)).setCell ⟨g, k * 4 + 3, none⟩ (.slice A2 (itemAt cur j).items.length c2)).setCell ⟨g, j * 4, none⟩ (.int .i64 (itemAt cur k).kind)).setCell ⟨g, j * 4 + 1, none⟩ (.int .i64 (itemAt cur k).num)).setCell ⟨g, j * 4 + 2, none⟩ (.string (itemAt cur k).text)).setCell ⟨g, j * 4 + 3, none⟩ (.slice A1 (itemAt cur k).items.length c1)) = w8 := ⟨_, rfl⟩
      rw [hw8] at hS2 ⊢
      have hb8 : ∀ n, n ≤ base → Below n w w8 := fun n hn => by
        have h0 := hf.out n hn
        have hng : n ≤ g := Nat.le_trans hn hbg
        rw [← hw8]
        iterate 8 refine Below.setCell ?_ hng _
        exact h0
      have hS5 : OwnL w8.drew base S ((cur.set k (itemAt cur j)).set j (itemAt cur k)) (.slice (some ⟨g, 0, none⟩) l.length c) := hS2.keep Keeps.drew (fun _ _ => rfl)
      have hb5 : ∀ n, n ≤ base → Below n w w8.drew := fun n hn => (hb8 n hn).drew
      have HS2 := Lib.hid hS5
      have HH2 := Lib.hid hH2
      have HB2 := Lib.hid hb5
      clear hS2 hH2 HS1 hK1 e3 hw8 hb8 hS5 hb5
      go_wp2_with fail
      go_roundw
      case rel => exact ⟨k + 1, _, by go_num, by have := HJ.out; simp; omega, by omega, HH2, HS2, HB2⟩
      case measure => simp [intOf]; omega
    · have hk2 : ¬ ((k : Int) < (l.length : Int) - 1 - k) := hlt
      have d2 : decide ((k : Int) < (l.length : Int) - 1 - k) = false := decide_eq_false hlt
      have hE := hH.out.done (by omega)
      have hO2 := hO.out
      rw [hE] at hO2
      have HO := Lib.hid hO2
      clear hO hO2 hE
      go_wp2_with fail
      go_end0
      exact ⟨⟨_, rfl⟩, HO.out, hf.out⟩
end Go.Proofs.YtjjbhnkplbjfeaaDoor
