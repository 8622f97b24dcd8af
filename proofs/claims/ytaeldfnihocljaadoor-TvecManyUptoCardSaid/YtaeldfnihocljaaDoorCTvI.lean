/- Transients: a step of a transient beside a plain list. -/
import Derived.Test.YtaeldfnihocljaaDoorCTvF
import Derived.Test.YtaeldfnihocljaaDoorCTvG
import Derived.Test.YtaeldfnihocljaaDoorCTvH
import Derived.Test.YtaeldfnihocljaaDoorCBase

set_option linter.unusedVariables false
set_option linter.unusedSimpArgs false
namespace Go.Proofs.YtaeldfnihocljaaDoor
open Go.RowKit
attribute [local go_sem] lt_succ_of

theorem box6 (w : World) (t : TypeId) (c0 c1 c2 c3 c4 c5 : Value) : ∃ w1, w.alloc (.cells #[c0, c1, c2, c3, c4, c5] t) = w1 ∧ Below w.heap.size w w1 ∧ w.heap.size + 1 = w1.heap.size ∧ w1.heap[w.heap.size]? = some (.cells #[c0, c1, c2, c3, c4, c5] t (0, 0)) :=
  ⟨_, rfl, (Below.refl _ _).alloc (Nat.le_refl _) _, by simp, heap_alloc_new w _⟩
theorem block6 {w : World} {b : Nat} {c0 c1 c2 c3 c4 c5 : Value} {t : TypeId} (h : w.heap[b]? = some (.cells #[c0, c1, c2, c3, c4, c5] t (0, 0))) :
    w.cell? ⟨b, 0, none⟩ = some c0 ∧ w.cell? ⟨b, 1, none⟩ = some c1 ∧ w.cell? ⟨b, 2, none⟩ = some c2 ∧ w.cell? ⟨b, 3, none⟩ = some c3 ∧ w.cell? ⟨b, 4, none⟩ = some c4 ∧ w.cell? ⟨b, 5, none⟩ = some c5 := by
  refine ⟨?_, ?_, ?_, ?_, ?_, ?_⟩ <;> simp [World.cell?, h]
/-- Behind a step: the transient and the list say the same. -/
def Went (w : World) (R : Nat → Prop) (x : Tr) (v : Value) (w' : World) : Prop := But x.own w w' ∧ ∃ x', IsTr w' R 31 x' ∧ x'.t = x.t ∧ x'.op = true ∧ (∀ b, x'.own b → x.own b ∨ w.heap.size ≤ b) ∧ IsS w' (fun b => ¬ x'.own b ∧ ¬ R b) x'.all v
theorem list_kept {w w' : World} {R : Nat → Prop} {x x' : Tr} {l : List V} {vl : Value} (hl : IsS w (fun b => ¬ x.own b ∧ ¬ R b) l vl) (hb : But x.own w w') (ho : ∀ b, x'.own b → x.own b ∨ w.heap.size ≤ b) : IsS w' (fun b => ¬ x'.own b ∧ ¬ R b) l vl :=
  hl.keep fun b hlt hs => ⟨⟨fun h => (ho b h).elim hs.1 (by omega), hs.2⟩, hb.block b hlt hs.1⟩
theorem Went.intro {w w2 w3 w4 : World} {R : Nat → Prop} {x x' : Tr} {v : Value} (hR : ∀ b, R b → b < w.heap.size) (h2 : Below w.heap.size w w2) (h3 : But x.own w2 w3) (hx' : IsTr w3 R 31 x') (ht : x'.t = x.t) (ho : x'.op = true) (hown : ∀ b, x'.own b → x.own b ∨ w2.heap.size ≤ b) (h4 : Below w3.heap.size w3 w4)
    (hv : IsS w4 (Old w3 fun b => ¬ x'.own b ∧ ¬ R b) x'.all v) : Went w R x v w4 := by
  have h5 := h2.size
  have h6 := h3.size
  refine ⟨((But.of h2).trans (h3.trans (But.of h4))), x', hx'.below h4, ht, ho, fun b h => (hown b h).imp id (fun h => by omega), hv.keep (Keeps.weak fun b h => ?_)⟩
  rcases h with ⟨h, _⟩ | h
  · exact h
  · exact ⟨fun h7 => by have := hx'.own_lt h7; omega, fun h7 => by have := hR b h7; omega⟩
theorem val_kept {w w' : World} {R : Nat → Prop} {x x' : Tr} {y : V} {vy : Value} (hl : IsV w (fun b => ¬ x.own b ∧ ¬ R b) y vy) (hb : But x.own w w') (ho : ∀ b, x'.own b → x.own b ∨ w.heap.size ≤ b) : IsV w' (fun b => ¬ x'.own b ∧ ¬ R b) y vy :=
  hl.keep fun b hlt hs => ⟨⟨fun h => (ho b h).elim hs.1 (by omega), hs.2⟩, hb.block b hlt hs.1⟩
theorem IsS.old {w w' : World} {S : Nat → Prop} {l : List V} {v : Value} (h : IsS w S l v) (hb : Below w.heap.size w w') : IsS w' (Old w S) l v := h.keep (Keeps.below_to hb fun b h1 h2 => .inl ⟨h2, h1⟩)
set_option maxRecDepth 100000 in
set_option maxHeartbeats 8000000 in
theorem tstep_calls (w : World) (R : Nat → Prop) (x : Tr) (s : St) (A : Option Addr) (c : Nat) (vl : Value) (hx : IsTr w R 31 x) (ho : x.op = true) (hR : ∀ b, R b → b < w.heap.size) (hs : St.Bd s) (hy : IsV w (fun b => ¬ x.own b ∧ ¬ R b) s.val (.agg #[.int .i64 s.val.kind, .int .i64 s.val.num, .string s.val.text, .slice A s.val.items.length c])) (hT : Lib.Utf8Tabs 0 1 w) (hl : IsS w (fun b => ¬ x.own b ∧ ¬ R b) x.all vl) :
    Calls Tryd.prog 35 #[.pointer (some ⟨x.t, 0, none⟩), vl, .agg #[.int .i64 s.kind, .int .i64 s.at_, .int .i64 s.val.kind, .int .i64 s.val.num, .string s.val.text, .slice A s.val.items.length c]] w fun e w' => ∃ v, e = .returned (.tuple #[v, .bool true]) ∧ Went w R x v w' := by
  obtain ⟨w1, hw1, hB1, hsz, hb0⟩ := box6 w 65 (.int .i64 s.kind) (.int .i64 s.at_) (.int .i64 s.val.kind) (.int .i64 s.val.num) (.string s.val.text) (.slice A s.val.items.length c)
  obtain ⟨e0, e1, e2, e3, e4, e5⟩ := block6 hb0
  have hx1 := hx.below hB1
  have hRf : ¬ x.own w.heap.size := fun h => by have := hx.own_lt h; omega
  have hlt1 : w.heap.size < w1.heap.size := by omega
  have HR := Lib.hid hR
  have HSM := Lib.hid hx.small
  have HSB := Lib.hid hs
  have HY1 := Lib.hid (hy.below hB1)
  have HB0 := Lib.hid hb0
  have hl1 : IsS w1 (fun b => ¬ x.own b ∧ ¬ R b) x.all vl := hl.keep (Keeps.below hB1)
  have hR1 : ∀ b, R b → b < w1.heap.size := fun b h => Nat.lt_of_lt_of_le (hR b h) hB1.size
  have hsm := hx.small
  have hl0 := hl
  obtain ⟨Al, cl, rfl, _, _, _⟩ := hl0
  by_cases hk0 : s.kind = 0
  · have h0 : (s.kind == 0) = true := by rw [hk0]; rfl
    have hS := tset_calls w1 R 31 x s.at_ s.val _ hx1 ho hR1 (hy.below hB1) (tabs_below hT hB1) hs.a0 hs.a1
    have HS := Lib.hid hS
    clear hS
    have HL1 := Lib.hid hl1
    have HO := Lib.hid ho
    obtain ⟨E, hE⟩ : ∃ E, setE x.all s.at_ s.val = E := ⟨_, rfl⟩
    by_cases hz : E = 0
    · subst hz
      rw [hE, if_pos rfl] at HS
      have HEE := Lib.hid hE
      clear hx hx1 hl1 hR1 hsm hy hT hk0 hE ho hR hs hl
      go_enter Tryd.func35, Tryd.ntmps35
      go_wp2_with (first | (go_at_call 41; refine HS.out.mono ?_; rintro e w3 ⟨rfl, hb3, x', hx', ht', ho', ha', hown'⟩; have hk3 := (hb3.block _ hlt1 hRf).trans HB0.out; obtain ⟨f0, f1, f2, f3, f4, f5⟩ := block6 hk3; have HL3 := Lib.hid (list_kept HL1.out hb3 hown'); have HY3 := Lib.hid (val_kept HY1.out hb3 hown'); have HA := Lib.hid (And.intro hb3 (And.intro hx' (And.intro ht' (And.intro (ho'.trans HO.out) (And.intro ha' hown'))))); have HRF := Lib.hid (HEE.out ▸ refset_calls x.all s.at_ s.val _ _ _ _ HL3.out HY3.out HSB.out.a0 HSB.out.a1 HSM.out); clear hb3 hx' ht' ho' ha' hown' hk3) | (go_at_call 26; refine HRF.out.mono ?_; rintro e w4 ⟨v4, rfl, hv4, ⟨A4, n4, c4, rfl, _⟩, hb4⟩; have HV4 := Lib.hid hv4; clear hv4))
      go_ret2
      obtain ⟨h1, h2, h3, h4, h5, h6⟩ := HA.out
      refine ⟨_, rfl, Went.intro HR.out hB1 h1 h2 h3 h4 h6 hb4 ?_⟩
      rw [h5]
      exact HV4.out trivial
    · rw [hE, if_neg hz] at HS
      have hz2 : (E == 0) = false := by simpa using hz
      have HEE := Lib.hid hE
      clear hx hx1 hl1 hR1 hsm hy hT hk0 hE ho hR hs hz hl
      go_enter Tryd.func35, Tryd.ntmps35
      go_wp2_with (first | (go_at_call 41; refine HS.out.mono ?_; rintro e w3 ⟨rfl, hb3, x', hx', ht', ho', ha', hown'⟩; have hk3 := (hb3.block _ hlt1 hRf).trans HB0.out; obtain ⟨f0, f1, f2, f3, f4, f5⟩ := block6 hk3; have HL3 := Lib.hid (list_kept HL1.out hb3 hown'); have HY3 := Lib.hid (val_kept HY1.out hb3 hown'); have HA := Lib.hid (And.intro hb3 (And.intro hx' (And.intro ht' (And.intro (ho'.trans HO.out) (And.intro ha' hown'))))); have HRF := Lib.hid (HEE.out ▸ refset_calls x.all s.at_ s.val _ _ _ _ HL3.out HY3.out HSB.out.a0 HSB.out.a1 HSM.out); clear hb3 hx' ht' ho' ha' hown' hk3) | (go_at_call 26; refine HRF.out.mono ?_; rintro e w4 ⟨v4, rfl, hv4, ⟨A4, n4, c4, rfl, _⟩, hb4⟩; have HV4 := Lib.hid hv4; clear hv4))
      go_ret2
      obtain ⟨h1, h2, h3, h4, h5, h6⟩ := HA.out
      refine ⟨_, rfl, Went.intro HR.out hB1 h1 h2 h3 h4 h6 hb4 ?_⟩
      rw [h5]
      exact HL3.out.old hb4
  · by_cases hk1 : s.kind = 1
    · have h0 : (s.kind == 0) = false := by rw [hk1]; rfl
      have h1 : (s.kind == 1) = true := by rw [hk1]; rfl
      have HS := Lib.hid (tpush_calls w1 R x s.val _ hx1 ho hR1 (hy.below hB1) (tabs_below hT hB1))
      have HL1 := Lib.hid hl1
      have HO := Lib.hid ho
      obtain ⟨E, hE⟩ : ∃ E, pushE x.all s.val = E := ⟨_, rfl⟩
      by_cases hz : E = 0
      · subst hz
        rw [hE, if_pos rfl] at HS
        have HEE := Lib.hid hE
        clear hx hx1 hl1 hR1 hsm hy hT hk0 hk1 hE ho hR hs hl
        go_enter Tryd.func35, Tryd.ntmps35
        go_wp2_with (first | (go_at_call 37; refine HS.out.mono ?_; rintro e w3 ⟨rfl, hb3, x', hx', ht', ho', ha', hown'⟩; have hk3 := (hb3.block _ hlt1 hRf).trans HB0.out; obtain ⟨f0, f1, f2, f3, f4, f5⟩ := block6 hk3; have HL3 := Lib.hid (list_kept HL1.out hb3 hown'); have HY3 := Lib.hid (val_kept HY1.out hb3 hown'); have HA := Lib.hid (And.intro hb3 (And.intro hx' (And.intro ht' (And.intro (ho'.trans HO.out) (And.intro ha' hown'))))); have HRF := Lib.hid (HEE.out ▸ refpush_calls x.all s.val _ _ _ _ HL3.out HY3.out HSM.out); clear hb3 hx' ht' ho' ha' hown' hk3) | (go_at_call 27; refine HRF.out.mono ?_; rintro e w4 ⟨v4, rfl, hv4, ⟨A4, n4, c4, rfl, _⟩, hb4⟩; have HV4 := Lib.hid hv4; clear hv4))
        go_ret2
        obtain ⟨h1, h2, h3, h4, h5, h6⟩ := HA.out
        refine ⟨_, rfl, Went.intro HR.out hB1 h1 h2 h3 h4 h6 hb4 ?_⟩
        rw [h5]
        exact HV4.out trivial
      · rw [hE, if_neg hz] at HS
        have hz2 : (E == 0) = false := by simpa using hz
        have HEE := Lib.hid hE
        clear hx hx1 hl1 hR1 hsm hy hT hk0 hk1 hE ho hR hs hz hl
        go_enter Tryd.func35, Tryd.ntmps35
        go_wp2_with (first | (go_at_call 37; refine HS.out.mono ?_; rintro e w3 ⟨rfl, hb3, x', hx', ht', ho', ha', hown'⟩; have hk3 := (hb3.block _ hlt1 hRf).trans HB0.out; obtain ⟨f0, f1, f2, f3, f4, f5⟩ := block6 hk3; have HL3 := Lib.hid (list_kept HL1.out hb3 hown'); have HY3 := Lib.hid (val_kept HY1.out hb3 hown'); have HA := Lib.hid (And.intro hb3 (And.intro hx' (And.intro ht' (And.intro (ho'.trans HO.out) (And.intro ha' hown'))))); have HRF := Lib.hid (HEE.out ▸ refpush_calls x.all s.val _ _ _ _ HL3.out HY3.out HSM.out); clear hb3 hx' ht' ho' ha' hown' hk3) | (go_at_call 27; refine HRF.out.mono ?_; rintro e w4 ⟨v4, rfl, hv4, ⟨A4, n4, c4, rfl, _⟩, hb4⟩; have HV4 := Lib.hid hv4; clear hv4))
        go_ret2
        obtain ⟨h1, h2, h3, h4, h5, h6⟩ := HA.out
        refine ⟨_, rfl, Went.intro HR.out hB1 h1 h2 h3 h4 h6 hb4 ?_⟩
        rw [h5]
        exact HL3.out.old hb4

    · by_cases hk2 : s.kind = 2
      · have h0 : (s.kind == 0) = false := by rw [hk2]; rfl
        have h1 : (s.kind == 1) = false := by rw [hk2]; rfl
        have h2 : (s.kind == 2) = true := by rw [hk2]; rfl
        have HS := Lib.hid (tpop_calls w1 R 31 x hx1 ho hR1)
        have HL1 := Lib.hid hl1
        have HO := Lib.hid ho
        obtain ⟨E, hE⟩ : ∃ E, popE x.all = E := ⟨_, rfl⟩
        rw [hE] at HS
        have HEE := Lib.hid hE
        by_cases hz : E = 0
        · subst hz
          clear hx hx1 hl1 hR1 hsm hy hT hk0 hk1 hk2 hE ho hR hs hl
          go_enter Tryd.func35, Tryd.ntmps35
          go_wp2_with (first
            | (go_at_call 39; refine HS.out.mono ?_; rintro e w3 ⟨v3, rfl, ⟨hb3, x', hx', ht', ho', ha', hown'⟩, hv3⟩; obtain ⟨_, Av, cv, rfl, _, _⟩ := hv3.eq; have hk3 := (hb3.block _ hlt1 hRf).trans HB0.out; obtain ⟨f0, f1, f2, f3, f4, f5⟩ := block6 hk3; have HL3 := Lib.hid (list_kept HL1.out hb3 hown'); have HA := Lib.hid (And.intro hb3 (And.intro hx' (And.intro ht' (And.intro (ho'.trans HO.out) (And.intro ha' hown'))))); obtain ⟨w4, hw4, hB4, hs4, hk4⟩ := box0 w3 31 (.int .i64 (popX x.all).kind) (.int .i64 (popX x.all).num) (.string (popX x.all).text) (.slice Av (popX x.all).items.length cv); obtain ⟨w5, hw5, hB5, hs5, hk5⟩ := box0 w4 31 (.int .i64 0) (.int .i64 0) (.string ⟨#[]⟩) (.slice none 0 0); have hB35 := below_then hB4 hB4.size hB5; have hkp := blockB hB5 hk4; have HL5 := Lib.hid (HL3.out.keep (S' := fun b => (¬ x'.own b ∧ ¬ R b) ∧ b < w3.heap.size) (Keeps.below_to hB35 fun b h1 h2 => ⟨h2, h1⟩)); have HP5 := Lib.hid (hv3.keep (S' := fun b => b < w3.heap.size) (Keeps.below_to hB35 fun b h1 h2 => h1)); have HKP := Lib.hid hkp; have HK5 := Lib.hid hk5; clear hb3 hx' ht' ho' ha' hown' hk3 hv3 hkp hk4 hk5)
            | (go_at_call 28; have hRP := refpop_calls x.all _ _ _ HL5.out HSM.out; rw [HEE.out] at hRP; refine hRP.mono ?_; rintro e w6 ⟨v4, vq, rfl, hvq, hv4, ⟨A4, n4, c4, rfl, _⟩, hb6⟩; obtain ⟨_, Aq, cq, rfl, _, _⟩ := hvq.eq; have HV4 := Lib.hid hv4; have HVQ := Lib.hid hvq; have hkp6 := blockB hb6 HKP.out; have hkq6 := blockB hb6 HK5.out; obtain ⟨p0, p1, p2, p3⟩ := block4 hkp6; obtain ⟨q0, q1, q2, q3⟩ := block4 hkq6; have qf := free4 hkq6; have hlq := World.block_lt_of_cell? w6 _ q0; have hlp := World.block_lt_of_cell? w6 _ p0; have hnpq : w3.heap.size ≠ w4.heap.size := (by omega); have HKP6 := Lib.hid hkp6; have HKQ6 := Lib.hid hkq6; clear hv4 hvq hRP hkp6 hkq6)
            | (go_at_call 17; obtain ⟨w7, hw7, hb7, hs7, hk7, hB7⟩ := store_box HKQ6.out (.int .i64 (popX x.all).kind) (.int .i64 (popX x.all).num) (.string (popX x.all).text) (.slice Aq (popX x.all).items.length cq); rw [hw7]; have hs6 := hb6.size; have hP7 := (HP5.out.below hb6).keep (w' := w7) (S' := fun _ => True) (fun b hb (hs : b < w3.heap.size) => ⟨trivial, hk7 b (by omega)⟩); have hQ7 := HVQ.out.keep (w' := w7) (S' := fun _ => True) (fun b hb hs => ⟨trivial, hk7 b (by rcases hs with ⟨⟨_, hs⟩, _⟩ | hs <;> omega)⟩); have HV7 := Lib.hid (fun h => (HV4.out h).keep (w' := w7) (S' := Old w3 (fun b => (¬ x'.own b ∧ ¬ R b))) (fun b hb hs => ⟨(by rcases hs with ⟨⟨hs, hs2⟩, _⟩ | hs; exact .inl ⟨hs, hs2⟩; exact .inr (by omega)), hk7 b (by rcases hs with ⟨⟨_, hs⟩, _⟩ | hs <;> omega)⟩)); have hb37 := (below_then hB35 hB35.size hb6).trans (hB7 w3.heap.size (by omega)); refine (same_calls (popX x.all) (popX x.all) _ _ _ _ _ hP7 hQ7).mono ?_; rintro e w8 ⟨rfl, hb8⟩; rw [eqV_self]; have hb38 := below_then hb37 hb37.size hb8; clear hP7 hQ7))
          go_ret2
          obtain ⟨h1, h2, h3, h4, h5, h6⟩ := HA.out
          have hne : x.all ≠ [] := fun e => by have := HEE.out; rw [e] at this; simp [popE] at this
          refine ⟨_, rfl, Went.intro HR.out hB1 h1 h2 h3 h4 h6 hb38 ?_⟩
          rw [h5]
          exact (HV7.out hne).below hb8
        · have hz2 : (E == 0) = false := by simpa using hz
          have HZ := Lib.hid hz
          clear hz hx hx1 hl1 hR1 hsm hy hT hk0 hk1 hk2 hE ho hR hs hl
          go_enter Tryd.func35, Tryd.ntmps35
          go_wp2_with (first
            | (go_at_call 39; refine HS.out.mono ?_; rintro e w3 ⟨v3, rfl, ⟨hb3, x', hx', ht', ho', ha', hown'⟩, hv3⟩; obtain ⟨_, Av, cv, rfl, _, _⟩ := hv3.eq; have hk3 := (hb3.block _ hlt1 hRf).trans HB0.out; obtain ⟨f0, f1, f2, f3, f4, f5⟩ := block6 hk3; have HL3 := Lib.hid (list_kept HL1.out hb3 hown'); have HA := Lib.hid (And.intro hb3 (And.intro hx' (And.intro ht' (And.intro (ho'.trans HO.out) (And.intro ha' hown'))))); obtain ⟨w4, hw4, hB4, hs4, hk4⟩ := box0 w3 31 (.int .i64 (popX x.all).kind) (.int .i64 (popX x.all).num) (.string (popX x.all).text) (.slice Av (popX x.all).items.length cv); obtain ⟨w5, hw5, hB5, hs5, hk5⟩ := box0 w4 31 (.int .i64 0) (.int .i64 0) (.string ⟨#[]⟩) (.slice none 0 0); have hB35 := below_then hB4 hB4.size hB5; have hkp := blockB hB5 hk4; have HL5 := Lib.hid (HL3.out.keep (S' := fun b => (¬ x'.own b ∧ ¬ R b) ∧ b < w3.heap.size) (Keeps.below_to hB35 fun b h1 h2 => ⟨h2, h1⟩)); have HP5 := Lib.hid (hv3.keep (S' := fun b => b < w3.heap.size) (Keeps.below_to hB35 fun b h1 h2 => h1)); have HKP := Lib.hid hkp; have HK5 := Lib.hid hk5; clear hb3 hx' ht' ho' ha' hown' hk3 hv3 hkp hk4 hk5)
            | (go_at_call 28; have hRP := refpop_calls x.all _ _ _ HL5.out HSM.out; rw [HEE.out] at hRP; refine hRP.mono ?_; rintro e w6 ⟨v4, vq, rfl, hvq, hv4, ⟨A4, n4, c4, rfl, _⟩, hb6⟩; obtain ⟨_, Aq, cq, rfl, _, _⟩ := hvq.eq; have HV4 := Lib.hid hv4; have HVQ := Lib.hid hvq; have hkp6 := blockB hb6 HKP.out; have hkq6 := blockB hb6 HK5.out; obtain ⟨p0, p1, p2, p3⟩ := block4 hkp6; obtain ⟨q0, q1, q2, q3⟩ := block4 hkq6; have qf := free4 hkq6; have hlq := World.block_lt_of_cell? w6 _ q0; have hlp := World.block_lt_of_cell? w6 _ p0; have hnpq : w3.heap.size ≠ w4.heap.size := (by omega); have HKP6 := Lib.hid hkp6; have HKQ6 := Lib.hid hkq6; clear hv4 hvq hRP hkp6 hkq6)
            | (go_at_call 17; obtain ⟨w7, hw7, hb7, hs7, hk7, hB7⟩ := store_box HKQ6.out (.int .i64 (popX x.all).kind) (.int .i64 (popX x.all).num) (.string (popX x.all).text) (.slice Aq (popX x.all).items.length cq); rw [hw7]; have hs6 := hb6.size; have hP7 := (HP5.out.below hb6).keep (w' := w7) (S' := fun _ => True) (fun b hb (hs : b < w3.heap.size) => ⟨trivial, hk7 b (by omega)⟩); have hQ7 := HVQ.out.keep (w' := w7) (S' := fun _ => True) (fun b hb hs => ⟨trivial, hk7 b (by rcases hs with ⟨⟨_, hs⟩, _⟩ | hs <;> omega)⟩); have HV7 := Lib.hid (fun h => (HV4.out h).keep (w' := w7) (S' := Old w3 (fun b => (¬ x'.own b ∧ ¬ R b))) (fun b hb hs => ⟨(by rcases hs with ⟨⟨hs, hs2⟩, _⟩ | hs; exact .inl ⟨hs, hs2⟩; exact .inr (by omega)), hk7 b (by rcases hs with ⟨⟨_, hs⟩, _⟩ | hs <;> omega)⟩)); have hb37 := (below_then hB35 hB35.size hb6).trans (hB7 w3.heap.size (by omega)); refine (same_calls (popX x.all) (popX x.all) _ _ _ _ _ hP7 hQ7).mono ?_; rintro e w8 ⟨rfl, hb8⟩; rw [eqV_self]; have hb38 := below_then hb37 hb37.size hb8; clear hP7 hQ7))
          go_ret2
          obtain ⟨h1, h2, h3, h4, h5, h6⟩ := HA.out
          have hnil : x.all = [] := by
            have h := HEE.out
            unfold popE at h
            by_cases e : x.all.length = 0
            · exact List.eq_nil_of_length_eq_zero e
            · rw [if_neg e] at h
              exact absurd h.symm HZ.out
          refine ⟨_, rfl, Went.intro HR.out hB1 h1 h2 h3 h4 h6 hb38 ?_⟩
          rw [h5]
          have := HL3.out.old hb38
          rw [hnil] at this ⊢
          exact this
      · have h0 : (s.kind == 0) = false := by simpa using hk0
        have h1 : (s.kind == 1) = false := by simpa using hk1
        have h2 : (s.kind == 2) = false := by simpa using hk2
        have HS := Lib.hid (tnth_calls w1 R 31 x s.at_ hx1 ho hs.a0 hs.a1)
        have HLN := Lib.hid (fun w2 (hb2 : Below w1.heap.size w1 w2) => tlen_calls w2 R 31 x (hx1.below hb2))
        simp only [ho, if_true] at HLN
        have HRN := Lib.hid (fun w2 (hb2 : Below w1.heap.size w1 w2) => refnth_calls x.all s.at_ _ w2 _ (hl1.below hb2) hs.a0 hs.a1)
        have HX1 := Lib.hid hx1
        have HL1 := Lib.hid hl1
        have HO := Lib.hid ho
        obtain ⟨M, hM⟩ : ∃ M, nthV x.all s.at_ = M := ⟨_, rfl⟩
        rw [hM] at HS HRN
        obtain ⟨X, E⟩ := M
        dsimp only at HS HRN
        clear hx hx1 hl1 hR1 hsm hy hT hk0 hk1 hk2 hM ho hR hs hl
        go_enter Tryd.func35, Tryd.ntmps35
        go_wp2_with (first
          | (go_at_call 38; refine HS.out.mono ?_; rintro e w3 ⟨v3, rfl, hv3, hb3⟩; obtain ⟨_, Av, cv, rfl, _, _⟩ := hv3.eq; obtain ⟨w4, hw4, hB4, hs4, hk4⟩ := box0 w3 31 (.int .i64 X.kind) (.int .i64 X.num) (.string X.text) (.slice Av X.items.length cv); have hb4 := below_then hb3 hb3.size hB4; obtain ⟨f0, f1, f2, f3, f4, f5⟩ := block6 (blockB hb4 HB0.out); have HV3 := Lib.hid (hv3.below hB4); have HK4 := Lib.hid hk4; clear hv3 hk4)
          | (go_at_call 16; refine (HRN.out _ hb4).mono ?_; rintro e w5 ⟨vq, rfl, hvq, hb5⟩; obtain ⟨_, Aq, cq, rfl, _, _⟩ := hvq.eq; obtain ⟨w6, hw6, hB6, hs6, hk6⟩ := box0 w5 31 (.int .i64 X.kind) (.int .i64 X.num) (.string X.text) (.slice Aq X.items.length cq); have hb46 := below_then hb5 hb5.size hB6; have hb6 := below_then hb4 hb4.size hb46; have HV6 := Lib.hid (HV3.out.below hb46); have HQ6 := Lib.hid (hvq.below hB6); have HK6 := Lib.hid hk6; have HKP6 := Lib.hid (blockB hb46 HK4.out); clear hvq hk6)
          | (go_at_call 40; refine (HLN.out _ hb6).mono ?_; rintro e w7 ⟨rfl, hb7⟩; have hb8 := below_then hb6 hb6.size hb7; obtain ⟨p0, p1, p2, p3⟩ := block4 (blockB hb7 HKP6.out); obtain ⟨q0, q1, q2, q3⟩ := block4 (blockB hb7 HK6.out); have HV8 := Lib.hid (HV6.out.below hb7); have HQ8 := Lib.hid (HQ6.out.below hb7))
          | (go_at_call 17; refine (same_calls X X _ _ _ _ _ HV8.out HQ8.out).mono ?_; rintro e w9 ⟨rfl, hb9⟩; rw [eqV_self]; have hb10 := below_then hb8 hb8.size hb9))
        go_ret2
        refine ⟨_, rfl, (But.of (below_then hB1 hB1.size hb10)), x, HX1.out.below hb10, rfl, HO.out, fun b h => .inl h, HL1.out.below hb10⟩
end Go.Proofs.YtaeldfnihocljaaDoor
