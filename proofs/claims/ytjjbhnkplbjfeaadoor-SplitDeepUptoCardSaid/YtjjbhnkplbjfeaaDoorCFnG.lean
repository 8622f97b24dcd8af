/- A part put at a tree's front. -/
import Derived.Test.YtjjbhnkplbjfeaaDoorCFnF

set_option linter.unusedVariables false
set_option linter.unusedSimpArgs false
namespace Go.Proofs.YtjjbhnkplbjfeaaDoor
open Go.RowKit
attribute [local go_sem] lt_succ_of methItem methNode asItem asNode isNode noNode fieldNode fieldItem notNil

theorem cells3 {w w' : World} {b : Nat} {v1 v2 v3 : Value} (hb : Below w.heap.size w w') (h : w.cell? ⟨b, 1, none⟩ = some v1 ∧ w.cell? ⟨b, 2, none⟩ = some v2 ∧ w.cell? ⟨b, 3, none⟩ = some v3) : w'.cell? ⟨b, 1, none⟩ = some v1 ∧ w'.cell? ⟨b, 2, none⟩ = some v2 ∧ w'.cell? ⟨b, 3, none⟩ = some v3 := ⟨cellB hb h.1, cellB hb h.2.1, cellB hb h.2.2⟩
theorem cells4' {w w' : World} {b : Nat} {A : Addr} {v1 v2 v3 v4 : Value} (hb : Below w.heap.size w w') (h : w.cell? ⟨b, 1, none⟩ = some v1 ∧ w.cell? ⟨b, 2, none⟩ = some v2 ∧ w.cell? ⟨b, 3, none⟩ = some v3) (h4 : w.cell? A = some v4) : w'.cell? ⟨b, 1, none⟩ = some v1 ∧ w'.cell? ⟨b, 2, none⟩ = some v2 ∧ w'.cell? ⟨b, 3, none⟩ = some v3 ∧ w'.cell? A = some v4 := ⟨cellB hb h.1, cellB hb h.2.1, cellB hb h.2.2, cellB hb h4⟩
theorem alloc_of {w w' : World} (hb : Below w.heap.size w w') (o : Obj) : Below w.heap.size w (w'.alloc o) := hb.alloc hb.size o
theorem drew_of {w w' : World} (hb : Below w.heap.size w w') : Below w.heap.size w w'.drew := hb.drew
theorem made_later {w w1 w2 : World} {S : Nat → Prop} {t : Ft} {e : Ending} (hb : Below w.heap.size w w1) (h : MadeF w1 (Old w S) t e w2) : MadeF w S t e w2 := by
  obtain ⟨p, rfl, h1, h2⟩ := h
  exact ⟨p, rfl, h1.keep (Keeps.weak (old_later hb)), below_then hb hb.size h2⟩
set_option maxRecDepth 100000 in
set_option maxHeartbeats 8000000 in
theorem front_calls (t : Ft) : ∀ (x : Pt) (k : Nat) (p : Option Addr) (u : Value) (w : World) (S : Nat → Prop), IsF w S t p → IsP w S x u → Ft.Ok k t → Pt.Lev k x → x.items.length + t.items.length ≤ 4294967296 →
    Calls Tryd.prog 74 #[.pointer p, u] w fun e w' => MadeF w S (t.front x) e w' := by
  induction t with
  | nil =>
    intro x k p u w S ht hx hok hlev hm
    obtain rfl := ht.nil_eq
    have HS := Lib.hid (single_calls x u w S hx (by simpa [Ft.items] using hm))
    clear ht hx hok hlev hm
    go_enter Tryd.func74, Tryd.ntmps74
    go_wp2_with (go_at_call 93; refine HS.out.mono ?_; rintro e w2 ⟨p, rfl, hp, hb⟩; have HP := Lib.hid hp; clear hp)
    go_ret
    exact ⟨p, rfl, HP.out, hb⟩
  | mk l m r ih =>
    intro x k p u w S ht hx hok hlev hm
    obtain ⟨b, vl, vr, q, rfl, hs, c0, c1, c2, c3, hl, hr, hq⟩ := ht.eq
    obtain ⟨h1, h2, h3, h4, h5, h6, h7⟩ := hok
    have hbl := World.block_lt_of_cell? w _ c0
    have hmm : (Ft.items (.mk l m r)).length = (Pt.flat l).length + m.items.length + (Pt.flat r).length := by simp [Ft.items]; omega
    rw [hmm] at hm
    have hA := alone_calls l r m b w S ht
    by_cases hr0 : r.length = 0
    · obtain ⟨hl1, rfl⟩ := h7 hr0
      obtain rfl := List.eq_nil_of_length_eq_zero hr0
      simp only [List.length_nil, decide_true] at hA
      have HA := Lib.hid hA
      obtain ⟨tu, xu, rfl⟩ := hx.form
      obtain ⟨A, cA, rfl, hcA, hPA⟩ := hl.addr h3
      have HOF : Hid (Calls Tryd.prog 95 #[.slice (some ⟨w.heap.size, 0, none⟩) 1 1, .pointer none, .slice (some A) l.length cA] (w.alloc (.cells #[.iface tu xu] 115)) fun e w' => MadeF w S (Ft.mk [x] .nil l) e w') := Lib.hid (by
        have hb : Below w.heap.size w (w.alloc (.cells #[.iface tu xu] 115)) := alloc_of (Below.refl _ _) _
        refine (of_calls [x] l .nil _ _ none _ (Old w S) (slice_new (l := [x]) (Below.refl _ _) ⟨_, [], rfl, hx.keep (keeps_old (Below.refl _ _)), rfl⟩) (hl.keep (keeps_old hb)) rfl ?_ (by simp) (by omega)).mono fun e w' h => made_later hb h
        simp only [Ft.items, pflat_one, List.nil_append, List.length_append]
        omega)
      have HF : Hid ((Ft.mk l .nil []).front x = .mk [x] .nil l) := Lib.hid (by simp [Ft.front])
      clear hl1 ih ht hl hr hq hx hA h1 h2 h5 h6 h7 hm hmm hlev hr0 hPA
      go_enter Tryd.func74, Tryd.ntmps74
      go_wp2_with (first
        | (go_at_call 94; refine HA.out.mono ?_; rintro e w2 ⟨rfl, rfl⟩)
        | (go_at_call 95; refine HOF.out.mono ?_; rintro e w3 ⟨p, rfl, hp, hb⟩; have HP := Lib.hid hp; clear hp))
      go_ret
      rw [HF.out]
      exact ⟨p, rfl, HP.out, hb⟩
    · simp only [hr0, decide_false] at hA
      have HA := Lib.hid hA
      obtain ⟨tu, xu, rfl⟩ := hx.form
      obtain ⟨A, cA, rfl, hcA, hPA⟩ := hl.addr h3
      obtain ⟨B, cB, rfl, hcB, hPB⟩ := hr.addr (by omega)
      have HC := Lib.hid (And.intro c1 (And.intro c2 c3))
      have hmm : (Ft.items (.mk (x :: l) m r)).length ≤ 4294967296 := by simp only [Ft.items, pflat_cons, List.length_append]; omega
      by_cases hl4 : l.length < 4
      · have e1 : (l.length : Int) < 4 := by omega
        have HPL : Hid (∀ W, Below w.heap.size w W → Calls Tryd.prog 96 #[.slice (some ⟨W.heap.size, 0, none⟩) 1 1, .slice (some A) l.length cA] (W.alloc (.cells #[.iface tu xu] 115)) fun e w' => ∃ v, e = .returned v ∧ IsPs w' (Old w S) (x :: l) v ∧ Below w.heap.size w w') := Lib.hid fun W hb => by
          refine (plus_calls [x] l _ _ _ (Old w S) (slice_new (l := [x]) hb ⟨_, [], rfl, hx.keep (keeps_old hb), rfl⟩) (hl.keep (keeps_old (alloc_of hb _))) (by simp) h3 (by simp; omega)).mono ?_
          rintro e w' ⟨v, rfl, hv, hb'⟩
          exact ⟨v, rfl, hv.keep (Keeps.weak (old_later (alloc_of hb _))), below_then (alloc_of hb _) (alloc_of hb _).size hb'⟩
        have HOF : Hid (∀ W v, Below w.heap.size w W → IsPs W (Old w S) (x :: l) v → Calls Tryd.prog 95 #[v, .pointer q, .slice (some B) r.length cB] W fun e w' => MadeF w S (Ft.mk (x :: l) m r) e w') := Lib.hid fun W v hb hv =>
          (of_calls (x :: l) r m _ _ q _ (Old w S) hv (hr.keep (keeps_old hb)) (hq.keep (keeps_old hb)) hmm (by simp; omega) (by omega)).mono fun e w' h => made_later hb h
        have HF : Hid ((Ft.mk l m r).front x = .mk (x :: l) m r) := Lib.hid (by simp only [Ft.front]; rw [if_neg hr0, if_pos hl4])
        clear ih ht hl hr hq hx hA h1 h2 h5 h6 h7 hm hmm hlev hr0 hPA hPB hl4 c0
        go_enter Tryd.func74, Tryd.ntmps74
        go_wp2_with (go_at_call 94; refine HA.out.mono ?_; rintro e w2 ⟨rfl, rfl⟩)
        go_region_held3 (fun w' => w'.cell? ⟨b, 1, none⟩ = some (.slice (some A) l.length cA) ∧ w'.cell? ⟨b, 2, none⟩ = some (.slice (some B) r.length cB) ∧ w'.cell? ⟨b, 3, none⟩ = some (.pointer q))
          (first | go_keep | exact cells3 (by first | assumption | exact alloc_of (by assumption) _) HC.out)
          (first
            | (go_at_call 96; refine (HPL.out _ (by first | assumption | exact drew_of (Below.refl _ _))).mono ?_; rintro e w5 ⟨v5, rfl, hv5, hb5⟩; have HV5 := Lib.hid hv5; obtain ⟨A5, c5, rfl, _⟩ := hv5)
            | (go_at_call 95; refine (HOF.out _ _ hb5 HV5.out).mono ?_; rintro e w3 ⟨p, rfl, hp, hb⟩; have HP := Lib.hid hp; clear hp))
        go_wp2_with fail
        go_ret
        rw [HF.out]
        exact ⟨p, rfl, HP.out, hb⟩
      · have hl4' : l.length = 4 := by omega
        obtain ⟨_, u0, hu0, hc0⟩ := hPA.at 0 (by omega)
        rw [Nat.zero_add] at hc0
        obtain ⟨t0, x0, rfl⟩ := hu0.form
        have hcA4 : 4 ≤ cA := by omega
        have hAl := World.block_lt_of_cell? w _ hc0
        have hca : w.cell? A = some (.iface t0 x0) := by simpa [Addr.add] using hc0
        have HCA := Lib.hid hca
        have hPD := PC.move (p := 1) (m := 0) (PC.drop 1 hPA)
        have hA1 : A.add 1 = ⟨A.block, A.off + 1, none⟩ := rfl
        rw [hA1] at hPD
        have hc1 : ¬ cA = 1 := by omega
        have hfl : (Pt.flat (l.drop 1)).length ≤ (Pt.flat l).length := by
          have := ptAt_drop (l := l) (i := 0) (by omega)
          simp only [List.drop_zero, Nat.zero_add] at this
          conv => rhs; rw [this, pflat_cons, List.length_append]
          omega
        have hCS : ∀ W, Below w.heap.size w W → CsP W (Old w S) [x, ptAt l 0] [.iface tu xu, .iface t0 x0] := fun W hb => ⟨_, _, rfl, hx.keep (keeps_old hb), _, _, rfl, hu0.keep (keeps_old hb), rfl⟩
        have HCS := Lib.hid hCS
        have HJ : Hid (∀ W, Below w.heap.size w W → Calls Tryd.prog 97 #[.slice (some ⟨A.block, A.off + 1, none⟩) 3 (cA - 1)] W fun e w' => ∃ v, e = .returned v ∧ IsP w' (Old w S) (.node (l.drop 1)) (.iface 137 v) ∧ (∃ a b, v = .agg #[a, b]) ∧ Below w.heap.size w w' ∧ Below W.heap.size W w') := Lib.hid fun W hb => by
          have h9 : IsPs W (Old w S) (l.drop 1) (.slice (some ⟨A.block, A.off + 1, none⟩) 3 (cA - 1)) := by
            have := (IsPs.of (cap := cA - 1) (by rw [List.length_drop]; omega) hPD).keep (keeps_old hb)
            rwa [List.length_drop, hl4'] at this
          refine (joined_calls (l.drop 1) _ W (Old w S) h9 (by rw [List.length_drop]; omega) (by omega) (by rw [List.length_drop]; omega)).mono ?_
          rintro e w' ⟨v, rfl, hv, hab, hb'⟩
          exact ⟨v, rfl, hv.keep (Keeps.weak (old_later hb)), hab, below_then hb hb.size hb', hb'⟩
        have hmn : (Pt.items (.node (l.drop 1))).length + m.items.length ≤ 4294967296 := by rw [pnode_items]; omega
        have hlv : Pt.Lev (k + 1) (.node (l.drop 1)) := ⟨by rw [List.length_drop]; omega, fun p hp => h1 p (List.drop_subset _ _ hp)⟩
        obtain ⟨o1, o2⟩ := front_ok (x := .node (l.drop 1)) h6 hlv
        have HFR : Hid (∀ W v, Below w.heap.size w W → IsP W (Old w S) (.node (l.drop 1)) (.iface 137 v) → Calls Tryd.prog 74 #[.pointer q, .iface 137 v] W fun e w' => (MadeF w S (m.front (.node (l.drop 1))) e w') ∧ Below W.heap.size W w') := Lib.hid fun W v hb hv =>
          (ih (.node (l.drop 1)) (k + 1) q _ W (Old w S) (hq.keep (keeps_old hb)) hv h6 hlv hmn).mono fun e w' h => ⟨made_later hb h, by obtain ⟨_, _, _, h⟩ := h; exact h⟩
        have HOF : Hid (∀ W p vs, Below w.heap.size w W → IsF W (Old w S) (m.front (.node (l.drop 1))) p → IsPs W (Old w S) [x, ptAt l 0] vs → Calls Tryd.prog 95 #[vs, .pointer p, .slice (some B) r.length cB] W fun e w' => MadeF w S (Ft.mk [x, ptAt l 0] (m.front (.node (l.drop 1))) r) e w') := Lib.hid fun W p vs hb hp hv =>
          (of_calls [x, ptAt l 0] r _ _ _ p _ (Old w S) hv (hr.keep (keeps_old hb)) hp (by
            have e := ptAt_drop (l := l) (i := 0) (by omega)
            simp only [List.drop_zero, Nat.zero_add] at e
            have e2 : (Pt.flat l).length = (Pt.items (ptAt l 0)).length + (Pt.flat (l.drop 1)).length := by conv => lhs; rw [e, pflat_cons, List.length_append]
            simp only [Ft.items, o2, pnode_items, pflat_cons, pflat_nil, List.length_append, List.length_nil]
            omega) (by simp) (by omega)).mono fun e w' h => made_later hb h
        have HF : Hid ((Ft.mk l m r).front x = .mk [x, ptAt l 0] (m.front (.node (l.drop 1))) r) := Lib.hid (by simp only [Ft.front]; rw [if_neg hr0, if_neg hl4])
        have e1 : ¬ ((l.length : Int) < 4) := by omega
        rw [hl4'] at c1 HC
        clear ih ht hl hr hq hx hA h1 h2 h5 h6 h7 hm hmm hlev hr0 hPA hPB hl4 c0 e1 hc0 hPD hfl hCS hmn hlv o1 o2 hu0 hcA h3 h4 hl4' hA1
        go_enter Tryd.func74, Tryd.ntmps74
        go_wp2_with (go_at_call 94; refine HA.out.mono ?_; rintro e w2 ⟨rfl, rfl⟩)
        go_region_held3 (fun w' => w'.cell? ⟨b, 1, none⟩ = some (.slice (some A) 4 cA) ∧ w'.cell? ⟨b, 2, none⟩ = some (.slice (some B) r.length cB) ∧ w'.cell? ⟨b, 3, none⟩ = some (.pointer q) ∧ w'.cell? A = some (.iface t0 x0))
          (first | go_keep | exact cells4' (by first | assumption | exact alloc_of (by assumption) _) HC.out HCA.out)
          (first
            | (go_at_call 97; refine (HJ.out _ (by first | assumption | exact drew_of (Below.refl _ _) | exact drew_of (alloc_of (Below.refl _ _) _))).mono ?_; rintro e w5 ⟨v5, rfl, hv5, ⟨a5, b5, rfl⟩, hb5, hr5⟩; have HV5 := Lib.hid hv5; clear hv5)
            | (go_at_call 74; refine (HFR.out _ _ (by first | assumption | exact alloc_of (by assumption) _) (by first | exact HV5.out | exact HV5.out.keep (Keeps.alloc _))).mono ?_; rintro e w6 ⟨⟨p6, rfl, hp6, hb6⟩, hr6⟩; have HP6 := Lib.hid hp6; clear hp6)
            | (go_at_call 95; refine (HOF.out _ _ _ hb6 HP6.out (((slice_new (l := [x, ptAt l 0]) (Below.refl _ _) (HCS.out _ (Below.refl _ _))).below (below_undrew hr5)).below hr6)).mono ?_; rintro e w7 ⟨p7, rfl, hp7, hb7⟩; have HP7 := Lib.hid hp7; clear hp7)
            | (go_at_call 95; refine (HOF.out _ _ _ hb6 HP6.out ((slice_new (l := [x, ptAt l 0]) hb5 (HCS.out _ hb5)).below hr6)).mono ?_; rintro e w7 ⟨p7, rfl, hp7, hb7⟩; have HP7 := Lib.hid hp7; clear hp7)
            | (go_at_call 95; refine (HOF.out _ _ _ (alloc_of hb6 _) (HP6.out.keep (Keeps.alloc _)) (slice_new (l := [x, ptAt l 0]) hb6 (HCS.out _ hb6))).mono ?_; rintro e w7 ⟨p7, rfl, hp7, hb7⟩; have HP7 := Lib.hid hp7; clear hp7))
        all_goals go_wp2_with fail
        all_goals go_ret
        all_goals
          rw [HF.out]
          exact ⟨p7, rfl, HP7.out, hb7⟩
end Go.Proofs.YtjjbhnkplbjfeaaDoor
