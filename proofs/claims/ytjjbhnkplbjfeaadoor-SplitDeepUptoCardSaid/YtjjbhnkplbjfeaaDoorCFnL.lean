/- A part, a tree with another item in a place. -/
import Derived.Test.YtjjbhnkplbjfeaaDoorCFnK

set_option linter.unusedVariables false
set_option linter.unusedSimpArgs false
namespace Go.Proofs.YtjjbhnkplbjfeaaDoor
open Go.RowKit Go.Shelf
attribute [local go_sem] lt_succ_of methItem methNode asItem asNode isNode noNode fieldNode fieldItem notNil

set_option maxRecDepth 100000 in
set_option maxHeartbeats 8000000 in
theorem change_calls : ∀ k, ChangeP k
  | 0 => by
    intro p i y u g lb M w S Q hlev hu hi hm hdo hQ hM eg
    obtain ⟨x, rfl⟩ := hlev.zero
    rw [pitem_items] at hi hdo
    obtain rfl : i = 0 := by simpa using hi
    exact change_item x y _ u g lb M w S Q hu hdo hQ hM eg
  | k + 1 => by
    intro p i y u g lb M w S Q hlev hu hi hm hdo hQ hM eg
    obtain ⟨ks, rfl, h3, hk⟩ := hlev.succ
    obtain ⟨ad, cap, rfl, hc, hp⟩ := hu.node_eq
    rw [pnode_items] at hi hm hdo
    obtain ⟨w1, hw1, hB1, hsz, hb0⟩ : ∃ w1, w.alloc (.cells #[.int .i64 0, .slice none 0 0] 137) = w1 ∧ Below w.heap.size w w1 ∧ w.heap.size + 1 = w1.heap.size ∧ w1.heap[w.heap.size]? = some (.cells #[.int .i64 0, .slice none 0 0] 137 (0, 0)) :=
      ⟨_, rfl, (Below.refl _ _).alloc (Nat.le_refl _) _, by simp, heap_alloc_new w _⟩
    obtain ⟨f0, f1⟩ := block2 hb0
    have fz := free4 hb0
    obtain ⟨n, hn⟩ : ∃ n : Int, ((Pt.flat ks).length : Int) = n := ⟨_, rfl⟩
    have h5 := blockset hb0 0 (.int .i64 n)
    have h6 := blockset h5 1 (.slice (some ad) ks.length cap)
    obtain ⟨w2, hw2, hB2, hk2⟩ : ∃ w2, (w1.setCell ⟨w.heap.size, 0, none⟩ (.int .i64 n)).setCell ⟨w.heap.size, 1, none⟩ (.slice (some ad) ks.length cap) = w2 ∧ Below w.heap.size w w2 ∧ w2.heap[w.heap.size]? = some (.cells #[.int .i64 n, .slice (some ad) ks.length cap] 137 (0, 0)) :=
      ⟨_, rfl, (hB1.setCell (Nat.le_refl _) _).setCell (Nat.le_refl _) _, by simpa using h6⟩
    obtain ⟨d0, d1⟩ := block2 hk2
    have hl2 := World.block_lt_of_cell? w2 _ d1
    have HCH := Lib.hid (changed_calls k (change_calls k) ks i y (.slice (some ad) ks.length cap) g lb M w2 (fun b => S b ∧ b < w.heap.size) Q hk (IsPs.of hc (hp.keep (Keeps.below_to hB2 fun b h1 h2 => ⟨h2, h1⟩))) hi (by omega) hm (hdo.later hB2 fun b h1 h2 => ⟨h1, h2⟩) hQ (fun b hb => ⟨fun h => (hM b hb).1 h.1, Nat.lt_of_lt_of_le (hM b hb).2 hB2.size⟩) eg)
    obtain ⟨c1, c2, c3⟩ := changed_ok (y := y) hk hi
    have hln : (Pt.flat (Pt.changed ks i y)).length = (Pt.flat ks).length := by rw [c3, List.length_set]
    have HJ : Hid (∀ W v, IsPs W (Old w S) (Pt.changed ks i y) v → Calls Tryd.prog 97 #[v] W fun e w' => ∃ v, e = .returned v ∧ IsP w' (Old W (Old w S)) (.node (Pt.changed ks i y)) (.iface 137 v) ∧ (∃ a b, v = .agg #[a, b]) ∧ Below W.heap.size W w') := Lib.hid fun W v hv =>
      joined_calls (Pt.changed ks i y) v W (Old w S) hv (by omega) (by omega) (by omega)
    have HQ := Lib.hid hQ
    have HM := Lib.hid hM
    rw [hn]
    clear hu hi hm hdo hQ hM eg hb0 h5 h6 hk2 hn hlev hk c1 c2 c3 hln hp h3
    go_enter Tryd.func114, Tryd.ntmps114
    go_wp2_with (first
      | (go_at_call 104; refine HCH.out.mono ?_; rintro e w3 ⟨v3, rfl, hv3, hb3, hq3⟩; have HV3 := Lib.hid (hv3.keep (S' := Old w S) (Keeps.weak fun b hb => (by rcases hb with ⟨hb, _⟩ | hb; exact .inl hb; exact .inr (Nat.le_trans hB2.size hb)))); have hb4 := (But.of (M := M) hB2).trans hb3; have hs4 := hb4.size; have HQ3 := Lib.hid hq3; obtain ⟨A3, c3, rfl, _⟩ := hv3; clear hb3 hq3)
      | (go_at_call 97; refine (HJ.out _ _ HV3.out).mono ?_; rintro e w5 ⟨v5, rfl, hv5, ⟨a5, b5, rfl⟩, hb5⟩; have HV5 := Lib.hid (hv5.keep (S' := Old w S) (Keeps.weak fun b hb => (by rcases hb with ⟨hb, _⟩ | hb; exact hb; exact .inr (Nat.le_trans hs4 hb)))); clear hv5))
    go_ret
    exact ⟨_, rfl, by rw [Pt.change]; exact HV5.out, hb4.trans (But.of hb5), HQ.out.below hb5 hB2.size HQ3.out⟩
/-- What is asked of a call that makes a tree with another item. -/
def MadeC (M : Nat → Prop) (w : World) (S : Nat → Prop) (Q : Nat → World → Prop) (t : Ft) (e : Ending) (w' : World) : Prop := ∃ p, e = .returned (.pointer p) ∧ IsF w' (Old w S) t p ∧ But M w w' ∧ Q w.heap.size w'
theorem made_but {M : Nat → Prop} {w w1 w2 : World} {S : Nat → Prop} {Q : Nat → World → Prop} {t : Ft} {e : Ending} (hQ : Lasts M Q) (hb : But M w w1) (hq : Q w.heap.size w1) (h : MadeF w1 (Old w S) t e w2) : MadeC M w S Q t e w2 := by
  obtain ⟨p, rfl, h1, h2⟩ := h
  refine ⟨p, rfl, h1.keep (Keeps.weak fun b hb' => ?_), hb.trans (But.of h2), hQ.below h2 (Nat.le_refl _) hq⟩
  rcases hb' with ⟨h3, _⟩ | h3
  · exact h3
  · exact .inr (Nat.le_trans hb.size h3)
theorem itemAt_left {a b : List V} {i : Nat} (h : i < a.length) : itemAt (a ++ b) i = itemAt a i := by
  rw [itemAt, itemAt, List.getD_eq_getElem?_getD, List.getD_eq_getElem?_getD, List.getElem?_append_left h]
theorem itemAt_right {a b : List V} {i : Nat} (h : a.length ≤ i) : itemAt (a ++ b) i = itemAt b (i - a.length) := by
  rw [itemAt, itemAt, List.getD_eq_getElem?_getD, List.getD_eq_getElem?_getD, List.getElem?_append_right h]
theorem cellM {M : Nat → Prop} {w w' : World} {S : Nat → Prop} (hb : But M w w') (hM : ∀ b, M b → ¬ S b ∧ b < w.heap.size) {b n : Nat} {v : Value} (hs : S b) (hc : w.cell? ⟨b, n, none⟩ = some v) : w'.cell? ⟨b, n, none⟩ = some v :=
  (World.cell?_of_block (w := w) (hb.block b (World.block_lt_of_cell? w ⟨b, n, none⟩ hc) fun h => (hM b h).1 hs)).trans hc
set_option maxRecDepth 100000 in
set_option maxHeartbeats 8000000 in
theorem fchange_calls (t : Ft) : ∀ (k i : Nat) (y : V) (p : Option Addr) (g : FuncId) (lb : List Value) (M : Nat → Prop) (w : World) (S : Nat → Prop) (Q : Nat → World → Prop), IsF w S t p → Ft.Ok k t → i < t.items.length → t.items.length ≤ 4294967296 → DoIs g lb (itemAt t.items i) y M w S Q → Lasts M Q →
    (∀ b, M b → ¬ S b ∧ b < w.heap.size) → (∀ args w, (callFunc g args).run Tryd.prog w = .ok (.enter g args) w) → Calls Tryd.prog 70 #[.pointer p, .int .i64 i, .func (.func g) #[] lb.toArray] w (MadeC M w S Q (t.change i y)) := by
  induction t with
  | nil => intro k i y p g lb M w S Q _ _ h; simp [Ft.items] at h
  | mk l m r ih =>
    intro k i y p g lb M w S Q ht hok hi hm hdo hQ hM eg
    obtain ⟨b, vl, vr, q, rfl, hs, c0, c1, c2, c3, hl, hr, hq⟩ := ht.eq
    obtain ⟨h1, h2, h3, h4, h5, h6, h7⟩ := hok
    have hbl := World.block_lt_of_cell? w _ c0
    have hmm : (Ft.items (.mk l m r)).length = (Pt.flat l).length + m.items.length + (Pt.flat r).length := by simp [Ft.items]; omega
    rw [hmm] at hm hi
    have hit : (Ft.mk l m r).items = Pt.flat l ++ (m.items ++ Pt.flat r) := rfl
    rw [hit] at hdo
    obtain ⟨A, cA, rfl, hcA, hPA⟩ := hl.addr h3
    obtain ⟨B, cB, rfl, hcB, _⟩ := id hr
    have HTL := Lib.hid (total_calls l _ w S hl (by omega) (by omega))
    obtain ⟨n, hn⟩ : ∃ n, (Pt.flat l).length = n := ⟨_, rfl⟩
    have HC := Lib.hid (And.intro c1 (And.intro c2 c3))
    have hkM : ∀ {W : World}, But M w W → Keeps w S W (Old w S) := fun h => h.old fun b hb => (hM b hb).1
    have HOF : Hid (∀ W l' m' r' p' vl' vr', But M w W → Q w.heap.size W → IsPs W (Old w S) l' vl' → IsPs W (Old w S) r' vr' → IsF W (Old w S) m' p' → (Ft.items (.mk l' m' r')).length ≤ 4294967296 → l'.length ≤ 65536 → r'.length ≤ 65536 → Calls Tryd.prog 95 #[vl', .pointer p', vr'] W (MadeC M w S Q (.mk l' m' r'))) := Lib.hid fun W l' m' r' p' vl' vr' hb hq' h8 h9 h10 h11 h12 h13 =>
      (of_calls l' r' m' _ _ p' W (Old w S) h8 h9 h10 h11 h12 h13).mono fun e w' h => made_but hQ hb hq' h
    have HM := Lib.hid hM
    have HS := Lib.hid hs
    have HKM := Lib.hid (fun (W : World) (h : But M w W) => hkM h)
    have HL := Lib.hid hl
    have HR := Lib.hid hr
    have HQQ := Lib.hid hq
    have HLQ := Lib.hid hQ
    by_cases hil : i < n
    · have e1 : (i : Int) < (n : Int) := by omega
      obtain ⟨o1, o2, o3⟩ := changed_ok (i := i) (y := y) h1 (by omega)
      have HB : Hid ((Ft.items (.mk (Pt.changed l i y) m r)).length ≤ 4294967296 ∧ (Pt.changed l i y).length ≤ 65536 ∧ r.length ≤ 65536) := Lib.hid ⟨by simp only [Ft.items, List.length_append, o3, List.length_set]; omega, by omega, by omega⟩
      have HCH : Hid (∀ W, Below w.heap.size w W → Calls Tryd.prog 104 #[.slice (some A) l.length cA, .int .i64 i, .func (.func g) #[] lb.toArray] W fun e w' => ∃ v, e = .returned v ∧ IsPs w' (Old w S) (Pt.changed l i y) v ∧ But M w w' ∧ Q w.heap.size w') := Lib.hid fun W hb => by
        refine (changed_calls k (change_calls k) l i y _ g lb M W (Old w S) Q h1 (hl.keep (keeps_old hb)) (by omega) (by omega) (by omega) (by rw [itemAt_left (by omega)] at hdo; exact hdo.later hb fun b h1 h2 => .inl ⟨h1, h2⟩) hQ (fun b hb' => ⟨hM_old hM b hb', Nat.lt_of_lt_of_le (hM b hb').2 hb.size⟩) eg).mono ?_
        rintro e w' ⟨v, rfl, hv, hb', hq'⟩
        exact ⟨v, rfl, hv.keep (Keeps.weak (old_later hb)), (But.of hb).trans hb', hQ.2 _ _ _ hb.size hq'⟩
      have HF : Hid ((Ft.mk l m r).change i y = .mk (Pt.changed l i y) m r) := Lib.hid (by simp only [Ft.change]; rw [if_pos (by omega)])
      rw [hn] at HTL
      clear ih ht hl hr hq h1 h2 h5 h6 h7 hm hmm hPA c0 hi hdo hQ hM eg hkM hn o1 o2 o3 hit hil
      go_enter Tryd.func70, Tryd.ntmps70
      go_wp2_with (go_at_call 103; refine HTL.out.mono ?_; rintro e w2 ⟨rfl, hb2⟩; obtain ⟨d1, d2, d3⟩ := cells3 hb2 HC.out; have hbl2 := World.block_lt_of_cell? w2 _ d1)
      go_region_held3 (fun w' => w'.cell? ⟨b, 1, none⟩ = some (.slice (some A) l.length cA) ∧ w'.cell? ⟨b, 2, none⟩ = some (.slice B r.length cB) ∧ w'.cell? ⟨b, 3, none⟩ = some (.pointer q))
        (first | go_keep | exact ⟨f1, f2, f3⟩ | exact ⟨g1, g2, g3⟩)
        (first
          | (go_at_call 104; refine (HCH.out _ (by first | exact drew_of hb2 | exact hb2)).mono ?_; rintro e w3 ⟨v3, rfl, hv3, hb3, hq3⟩; have HV3 := Lib.hid hv3; obtain ⟨A3, c3', rfl, _⟩ := hv3; have f1 := cellM hb3 HM.out HS.out HC.out.1; have f2 := cellM hb3 HM.out HS.out HC.out.2.1; have f3 := cellM hb3 HM.out HS.out HC.out.2.2; have HQ3 := Lib.hid hq3; clear hq3)
          | (go_at_call 95; refine (HOF.out _ (Pt.changed l i y) m r _ _ _ hb3 HQ3.out HV3.out (HR.out.keep (HKM.out _ hb3)) (HQQ.out.keep (HKM.out _ hb3)) HB.out.1 HB.out.2.1 HB.out.2.2).mono ?_; rintro e w5 ⟨p5, rfl, hp5⟩; have HP5 := Lib.hid hp5; have g1 := cellM hp5.2.1 HM.out HS.out HC.out.1; have g2 := cellM hp5.2.1 HM.out HS.out HC.out.2.1; have g3 := cellM hp5.2.1 HM.out HS.out HC.out.2.2; clear hp5))
      go_wp2_with fail
      go_ret
      rw [HF.out]
      exact ⟨p5, rfl, HP5.out⟩
    · obtain ⟨j, rfl⟩ : ∃ j, i = n + j := ⟨i - n, by omega⟩
      have e1 : ¬ ((n : Int) + (j : Int) < (n : Int)) := by omega
      have hj : j < m.items.length + (Pt.flat r).length := by omega
      rw [itemAt_right (by omega), hn, show n + j - n = j by omega] at hdo
      have HSZ : Hid (∀ W, Below w.heap.size w W → Calls Tryd.prog 79 #[.pointer q] W fun e w' => e = .returned (.int .i64 (m.items.length : Nat)) ∧ w' = W) := Lib.hid fun W hb => treesize_calls m q W S (hq.below hb)
      by_cases hjm : j < m.items.length
      · have e2 : (n : Int) + (j : Int) - (n : Int) < (m.items.length : Int) := by omega
        have e3 : (n : Int) + (j : Int) - (n : Int) ≤ 4294967296 := by omega
        have e4 : 0 ≤ (n : Int) + (j : Int) - (n : Int) := by omega
        have HJJ : Hid ((n : Int) + (j : Int) - (n : Int) = (j : Int)) := Lib.hid (by omega)
        rw [itemAt_left hjm] at hdo
        obtain ⟨o1, o2⟩ := fchange_ok (y := y) h6 hjm
        have HB : Hid ((Ft.items (.mk l (m.change j y) r)).length ≤ 4294967296 ∧ l.length ≤ 65536 ∧ r.length ≤ 65536) := Lib.hid ⟨by simp only [Ft.items, List.length_append, o2, List.length_set]; omega, by omega, by omega⟩
        have HCH : Hid (∀ W, Below w.heap.size w W → Calls Tryd.prog 70 #[.pointer q, .int .i64 ((n : Int) + (j : Int) - (n : Int)), .func (.func g) #[] lb.toArray] W fun e w' => ∃ p, e = .returned (.pointer p) ∧ IsF w' (Old w S) (m.change j y) p ∧ But M w w' ∧ Q w.heap.size w') := Lib.hid fun W hb => by
          rw [HJJ.out]
          refine (ih (k + 1) j y q g lb M W (Old w S) Q (hq.keep (keeps_old hb)) h6 hjm (by omega) (hdo.later hb fun b h1 h2 => .inl ⟨h1, h2⟩) hQ (fun b hb' => ⟨hM_old hM b hb', Nat.lt_of_lt_of_le (hM b hb').2 hb.size⟩) eg).mono ?_
          rintro e w' ⟨v, rfl, hv, hb', hq'⟩
          exact ⟨v, rfl, hv.keep (Keeps.weak (old_later hb)), (But.of hb).trans hb', hQ.2 _ _ _ hb.size hq'⟩
        have HF : Hid ((Ft.mk l m r).change (n + j) y = .mk l (m.change j y) r) := Lib.hid (by simp only [Ft.change]; rw [if_neg (by omega), hn, show n + j - n = j by omega, if_pos hjm])
        rw [hn] at HTL
        have hbn : (n : Int) ≤ 4294967296 := by omega
        clear ih ht hl hr hq h1 h2 h5 h6 h7 hm hmm hPA c0 hi hdo hQ hM eg hkM hn o1 o2 hit hil hj hjm
        go_enter Tryd.func70, Tryd.ntmps70
        go_wp2_with (first
          | (go_at_call 103; refine HTL.out.mono ?_; rintro e w2 ⟨rfl, hb2⟩; obtain ⟨d1, d2, d3⟩ := cells3 hb2 HC.out; have hbl2 := World.block_lt_of_cell? w2 _ d1)
          | (go_at_call 79; refine (HSZ.out _ hb2).mono ?_; rintro e w3 ⟨rfl, rfl⟩))
        go_region_held3 (fun w' => w'.cell? ⟨b, 1, none⟩ = some (.slice (some A) l.length cA) ∧ w'.cell? ⟨b, 2, none⟩ = some (.slice B r.length cB) ∧ w'.cell? ⟨b, 3, none⟩ = some (.pointer q))
          (first | go_keep | exact ⟨f1, f2, f3⟩ | exact ⟨g1, g2, g3⟩)
          (first
            | (go_at_call 70; refine (HCH.out _ (by first | exact drew_of hb2 | exact hb2)).mono ?_; rintro e w4 ⟨p4, rfl, hv3, hb3, hq3⟩; have HV3 := Lib.hid hv3; have f1 := cellM hb3 HM.out HS.out HC.out.1; have f2 := cellM hb3 HM.out HS.out HC.out.2.1; have f3 := cellM hb3 HM.out HS.out HC.out.2.2; have HQ3 := Lib.hid hq3; clear hq3 hv3)
            | (go_at_call 95; refine (HOF.out _ l (m.change j y) r _ _ _ hb3 HQ3.out (HL.out.keep (HKM.out _ hb3)) (HR.out.keep (HKM.out _ hb3)) HV3.out HB.out.1 HB.out.2.1 HB.out.2.2).mono ?_; rintro e w5 ⟨p5, rfl, hp5⟩; have HP5 := Lib.hid hp5; have g1 := cellM hp5.2.1 HM.out HS.out HC.out.1; have g2 := cellM hp5.2.1 HM.out HS.out HC.out.2.1; have g3 := cellM hp5.2.1 HM.out HS.out HC.out.2.2; clear hp5))
        go_wp2_with fail
        go_ret
        rw [HF.out]
        exact ⟨p5, rfl, HP5.out⟩
      · obtain ⟨i2, rfl⟩ : ∃ i2, j = m.items.length + i2 := ⟨j - m.items.length, by omega⟩
        obtain ⟨ml, hml⟩ : ∃ ml, m.items.length = ml := ⟨_, rfl⟩
        rw [itemAt_right (by omega), show m.items.length + i2 - m.items.length = i2 by omega] at hdo
        rw [hml] at HSZ hj hjm e1 hi hil hm ⊢
        have e2 : ¬ ((n : Int) + ((ml : Int) + (i2 : Int)) - (n : Int) < (ml : Int)) := by omega
        have e3 : (n : Int) + ((ml : Int) + (i2 : Int)) - (n : Int) ≤ 4294967296 := by omega
        have e5 : 0 ≤ (n : Int) + ((ml : Int) + (i2 : Int)) - (n : Int) := by omega
        have HJJ : Hid ((n : Int) + ((ml : Int) + (i2 : Int)) - (n : Int) - (ml : Int) = (i2 : Int)) := Lib.hid (by omega)
        have e6 : IntKind.i64.wrap ((n : Int) + ((ml : Int) + (i2 : Int)) - (n : Int) - (ml : Int)) = (n : Int) + ((ml : Int) + (i2 : Int)) - (n : Int) - (ml : Int) := IntWalk.i64_in _ (by omega)
        obtain ⟨o1, o2, o3⟩ := changed_ok (i := i2) (y := y) h2 (by omega)
        have HB : Hid ((Ft.items (.mk l m (Pt.changed r i2 y))).length ≤ 4294967296 ∧ l.length ≤ 65536 ∧ (Pt.changed r i2 y).length ≤ 65536) := Lib.hid ⟨by simp only [Ft.items, List.length_append, o3, List.length_set]; omega, by omega, by omega⟩
        have HCH : Hid (∀ W, Below w.heap.size w W → Calls Tryd.prog 104 #[.slice B r.length cB, .int .i64 ((n : Int) + ((ml : Int) + (i2 : Int)) - (n : Int) - (ml : Int)), .func (.func g) #[] lb.toArray] W fun e w' => ∃ v, e = .returned v ∧ IsPs w' (Old w S) (Pt.changed r i2 y) v ∧ But M w w' ∧ Q w.heap.size w') := Lib.hid fun W hb => by
          rw [HJJ.out]
          refine (changed_calls k (change_calls k) r i2 y _ g lb M W (Old w S) Q h2 (hr.keep (keeps_old hb)) (by omega) (by omega) (by omega) (hdo.later hb fun b h1 h2 => .inl ⟨h1, h2⟩) hQ (fun b hb' => ⟨hM_old hM b hb', Nat.lt_of_lt_of_le (hM b hb').2 hb.size⟩) eg).mono ?_
          rintro e w' ⟨v, rfl, hv, hb', hq'⟩
          exact ⟨v, rfl, hv.keep (Keeps.weak (old_later hb)), (But.of hb).trans hb', hQ.2 _ _ _ hb.size hq'⟩
        have HF : Hid ((Ft.mk l m r).change (n + (ml + i2)) y = .mk l m (Pt.changed r i2 y)) := Lib.hid (by simp only [Ft.change]; rw [if_neg (by omega), hn, show n + (ml + i2) - n = ml + i2 by omega, hml, if_neg (by omega), show ml + i2 - ml = i2 by omega])
        rw [hn] at HTL
        have hbn : (n : Int) ≤ 4294967296 := by omega
        clear ih ht hl hr hq h1 h2 h5 h6 h7 hm hmm hPA c0 hi hdo hQ hM eg hkM hn o1 o2 o3 hit hil hj hjm hml
        go_enter Tryd.func70, Tryd.ntmps70
        go_wp2_with (first
          | (go_at_call 103; refine HTL.out.mono ?_; rintro e w2 ⟨rfl, hb2⟩; obtain ⟨d1, d2, d3⟩ := cells3 hb2 HC.out; have hbl2 := World.block_lt_of_cell? w2 _ d1)
          | (go_at_call 79; refine (HSZ.out _ hb2).mono ?_; rintro e w3 ⟨rfl, rfl⟩))
        go_region_held3 (fun w' => w'.cell? ⟨b, 1, none⟩ = some (.slice (some A) l.length cA) ∧ w'.cell? ⟨b, 2, none⟩ = some (.slice B r.length cB) ∧ w'.cell? ⟨b, 3, none⟩ = some (.pointer q))
          (first | go_keep | exact ⟨f1, f2, f3⟩ | exact ⟨g1, g2, g3⟩)
          (first
            | (go_at_call 79; refine (HSZ.out _ (by first | exact drew_of hb2 | exact hb2)).mono ?_; rintro e w8 ⟨rfl, rfl⟩)
            | (go_at_call 104; refine (HCH.out _ (by first | exact drew_of hb2 | exact hb2)).mono ?_; rintro e w4 ⟨v3, rfl, hv3, hb3, hq3⟩; have HV3 := Lib.hid hv3; obtain ⟨A3, c3', rfl, _⟩ := hv3; have f1 := cellM hb3 HM.out HS.out HC.out.1; have f2 := cellM hb3 HM.out HS.out HC.out.2.1; have f3 := cellM hb3 HM.out HS.out HC.out.2.2; have HQ3 := Lib.hid hq3; clear hq3)
            | (go_at_call 95; refine (HOF.out _ l m (Pt.changed r i2 y) _ _ _ hb3 HQ3.out (HL.out.keep (HKM.out _ hb3)) HV3.out (HQQ.out.keep (HKM.out _ hb3)) HB.out.1 HB.out.2.1 HB.out.2.2).mono ?_; rintro e w5 ⟨p5, rfl, hp5⟩; have HP5 := Lib.hid hp5; have g1 := cellM hp5.2.1 HM.out HS.out HC.out.1; have g2 := cellM hp5.2.1 HM.out HS.out HC.out.2.1; have g3 := cellM hp5.2.1 HM.out HS.out HC.out.2.2; clear hp5))
        go_wp2_with fail
        go_ret
        rw [HF.out]
        exact ⟨p5, rfl, HP5.out⟩
end Go.Proofs.YtjjbhnkplbjfeaaDoor
