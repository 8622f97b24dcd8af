/- The first part of a tree, and the tree without it. -/
import Derived.Test.YtjjbhnkplbjfeaaDoorCFnH

set_option linter.unusedVariables false
set_option linter.unusedSimpArgs false
namespace Go.Proofs.YtjjbhnkplbjfeaaDoor
open Go.RowKit
attribute [local go_sem] lt_succ_of methItem methNode asItem asNode isNode noNode fieldNode fieldItem notNil

/-- What is asked of a call that takes a part off a tree. -/
def MadeX (w : World) (S : Nat → Prop) (x : Pt × Ft) (e : Ending) (w' : World) : Prop := ∃ u p, e = .returned (.tuple #[u, .pointer p]) ∧ IsP w' (Old w S) x.1 u ∧ IsF w' (Old w S) x.2 p ∧ Below w.heap.size w w'
theorem mk_some {w : World} {S : Nat → Prop} {t : Ft} {q : Option Addr} (h : IsF w S t q) (hn : t.isNil = false) : ∃ b, q = some ⟨b, 0, none⟩ := by
  cases t with
  | nil => cases hn
  | mk l m r => obtain ⟨b, _, _, _, rfl, _⟩ := h.eq; exact ⟨b, rfl⟩
set_option maxRecDepth 100000 in
set_option maxHeartbeats 8000000 in
theorem first_calls (t : Ft) : ∀ (k : Nat) (p : Option Addr) (w : World) (S : Nat → Prop), IsF w S t p → Ft.Ok k t → t.isNil = false → t.items.length ≤ 4294967296 →
    Calls Tryd.prog 75 #[.pointer p] w fun e w' => MadeX w S t.first e w' := by
  induction t with
  | nil => intro k p w S _ _ h; cases h
  | mk l m r ih =>
    intro k p w S ht hok _ hm
    obtain ⟨b, vl, vr, q, rfl, hs, c0, c1, c2, c3, hl, hr, hq⟩ := ht.eq
    obtain ⟨h1, h2, h3, h4, h5, h6, h7⟩ := hok
    have hbl := World.block_lt_of_cell? w _ c0
    have hmm : (Ft.items (.mk l m r)).length = (Pt.flat l).length + m.items.length + (Pt.flat r).length := by simp [Ft.items]; omega
    rw [hmm] at hm
    have hA := alone_calls l r m b w S ht
    obtain ⟨A, cA, rfl, hcA, hPA⟩ := hl.addr h3
    obtain ⟨_, u0, hu0, hc0⟩ := hPA.at 0 (by omega)
    rw [Nat.zero_add] at hc0
    have hca : w.cell? A = some u0 := by simpa [Addr.add] using hc0
    obtain ⟨t0, x0, rfl⟩ := hu0.form
    have hAl := World.block_lt_of_cell? w _ hca
    have HU := Lib.hid hu0
    have hlp : decide (0 < l.length) = true := by simpa using h3
    have hli : (0 : Int) < (l.length : Int) := by omega
    have hfl : (Pt.flat l).length = (Pt.items (ptAt l 0)).length + (Pt.flat (l.drop 1)).length := by
      have := ptAt_drop (l := l) (i := 0) (by omega)
      simp only [List.drop_zero, Nat.zero_add] at this
      conv => lhs; rw [this, pflat_cons, List.length_append]
    by_cases hr0 : r.length = 0
    · rw [decide_eq_true hr0] at hA
      have HA := Lib.hid hA
      have HF : Hid ((Ft.mk l m r).first = (ptAt l 0, .nil)) := Lib.hid (by simp only [Ft.first]; rw [if_pos hr0])
      clear ih ht hl hr hq hA h1 h2 h5 h6 h7 hm hmm hr0 hPA c0 hc0 hu0 hfl
      go_enter Tryd.func75, Tryd.ntmps75
      go_wp2_with (first
        | (go_at_call 94; refine HA.out.mono ?_; rintro e w2 ⟨rfl, rfl⟩))
      go_ret2
      rw [HF.out]
      exact ⟨_, none, rfl, HU.out.keep (keeps_old (Below.refl _ _)), rfl, Below.refl _ _⟩
    · rw [decide_eq_false hr0] at hA
      have HA := Lib.hid hA
      by_cases hl2 : 1 < l.length
      · have e1 : (1 : Int) < (l.length : Int) := by omega
        have e2 : ¬ cA = 1 := by omega
        have e3 : 1 ≤ cA := by omega
        have e4 : 1 ≤ l.length := by omega
        have e5 : (1 : Int) ≤ (l.length : Int) := by omega
        have hPD := PC.move (p := 1) (m := 0) (PC.drop 1 hPA)
        have hA1 : A.add 1 = ⟨A.block, A.off + 1, none⟩ := rfl
        rw [hA1] at hPD
        have HC := Lib.hid (And.intro c1 (And.intro c2 c3))
        obtain ⟨B, cB, rfl, hcB, hPB⟩ := hr.addr (by omega)
        have HOF : Hid (∀ W, Below w.heap.size w W → Calls Tryd.prog 95 #[.slice (some ⟨A.block, A.off + 1, none⟩) (l.length - 1) (cA - 1), .pointer q, .slice (some B) r.length cB] W fun e w' => MadeF w S (Ft.mk (l.drop 1) m r) e w') := Lib.hid fun W hb => by
          have h9 : IsPs W (Old w S) (l.drop 1) (.slice (some ⟨A.block, A.off + 1, none⟩) (l.length - 1) (cA - 1)) := by
            have := (IsPs.of (cap := cA - 1) (by rw [List.length_drop]; omega) hPD).keep (keeps_old hb)
            rwa [List.length_drop] at this
          exact (of_calls (l.drop 1) r m _ _ q _ (Old w S) h9 (hr.keep (keeps_old hb)) (hq.keep (keeps_old hb)) (by simp only [Ft.items, List.length_append]; omega) (by rw [List.length_drop]; omega) (by omega)).mono fun e w' h => made_later hb h
        have HF : Hid ((Ft.mk l m r).first = (ptAt l 0, .mk (l.drop 1) m r)) := Lib.hid (by simp only [Ft.first]; rw [if_neg hr0, if_pos hl2])
        clear ih ht hl hr hq hA h1 h2 h5 h6 h7 hm hmm hr0 hPA c0 hc0 hu0 hfl hPD hA1 hPB
        go_enter Tryd.func75, Tryd.ntmps75
        go_wp2_with (go_at_call 94; refine HA.out.mono ?_; rintro e w2 ⟨rfl, rfl⟩)
        go_region_held3 (fun w' => w'.cell? ⟨b, 1, none⟩ = some (.slice (some A) l.length cA) ∧ w'.cell? ⟨b, 2, none⟩ = some (.slice (some B) r.length cB) ∧ w'.cell? ⟨b, 3, none⟩ = some (.pointer q))
          (first | go_keep | exact cells3 (by first | assumption | exact alloc_of (by assumption) _) HC.out)
          (first
            | (go_at_call 95; refine (HOF.out _ (by first | exact drew_of (Below.refl _ _) | exact Below.refl _ _)).mono ?_; rintro e w3 ⟨p, rfl, hp, hb⟩; have HP := Lib.hid hp; clear hp))
        go_wp2_with fail
        go_ret2
        rw [HF.out]
        exact ⟨_, p, rfl, HU.out.keep (keeps_old hb), HP.out, hb⟩
      · have e1 : ¬ ((1 : Int) < (l.length : Int)) := by omega
        cases hmn : m.isNil with
        | true =>
          obtain rfl := isNil_nil hmn
          obtain rfl := hq.nil_eq
          obtain ⟨B, cB, rfl, hcB, hPB⟩ := hr.addr (by omega)
          have HFE := Lib.hid (few_calls r k _ w S hr (by omega) h2 (by omega) (by omega))
          have HF : Hid ((Ft.mk l .nil r).first = (ptAt l 0, Ft.few r)) := Lib.hid (by simp only [Ft.first]; rw [if_neg hr0, if_neg hl2]; rfl)
          clear ih ht hl hr hq hA h1 h2 h5 h6 h7 hm hmm hr0 hPA c0 hc0 hu0 hfl hPB hl2 hmn
          go_enter Tryd.func75, Tryd.ntmps75
          go_wp2_with (first
            | (go_at_call 94; refine HA.out.mono ?_; rintro e w2 ⟨rfl, rfl⟩)
            | (go_at_call 105; refine HFE.out.mono ?_; rintro e w3 ⟨p, rfl, hp, hb⟩; have HP := Lib.hid hp; clear hp))
          go_ret2
          rw [HF.out]
          exact ⟨_, p, rfl, HU.out.keep (keeps_old hb), HP.out, hb⟩
        | false =>
          obtain ⟨bq, rfl⟩ := mk_some hq hmn
          obtain ⟨B, cB, rfl, hcB, hPB⟩ := hr.addr (by omega)
          have HC := Lib.hid (And.intro c1 (And.intro c2 c3))
          obtain ⟨o1, o2, o3⟩ := first_ok h6 hmn
          obtain ⟨ks, ek, hk3, hkl⟩ := o1.succ
          have HI := Lib.hid (ih (k + 1) (some ⟨bq, 0, none⟩) w S hq h6 hmn (by omega))
          have hlen : m.items.length = (Pt.flat ks).length + m.first.2.items.length := by rw [o3, ek, pnode_items, List.length_append]
          have HOF : Hid (∀ W vl p, Below w.heap.size w W → IsPs W (Old w S) ks vl → IsF W (Old w S) m.first.2 p → Calls Tryd.prog 95 #[vl, .pointer p, .slice (some B) r.length cB] W fun e w' => MadeF w S (Ft.mk ks m.first.2 r) e w') := Lib.hid fun W vl p hb hv hp =>
            (of_calls ks r _ _ _ p _ (Old w S) hv (hr.keep (keeps_old hb)) hp (by simp only [Ft.items, List.length_append]; omega) (by omega) (by omega)).mono fun e w' h => made_later hb h
          have HF : Hid ((Ft.mk l m r).first = (ptAt l 0, .mk ks m.first.2 r)) := Lib.hid (by simp only [Ft.first, hmn, ek, Pt.parts]; rw [if_neg hr0, if_neg hl2]; rfl)
          have HEK := Lib.hid ek
          clear ih ht hl hr hq hA h1 h2 h5 h6 h7 hm hmm hr0 hPA c0 hc0 hu0 hfl hPB hl2 hmn o1 o2 o3 hkl hk3 hlen ek
          go_enter Tryd.func75, Tryd.ntmps75
          go_wp2_with (first
            | (go_at_call 94; refine HA.out.mono ?_; rintro e w2 ⟨rfl, rfl⟩)
            | (go_at_call 75; refine HI.out.mono ?_; rintro e w3 ⟨u3, p3, rfl, hu3, hp3, hb3⟩; rw [HEK.out] at hu3; obtain ⟨t3, x3, rfl⟩ := hu3.form; have HU3 := Lib.hid hu3; have HP3 := Lib.hid hp3; have d2 := cellB hb3 c2; have HD2 := Lib.hid d2; have hbl3 := World.block_lt_of_cell? w3 _ d2; clear hu3 hp3 HI))
          go_region_held3 (fun w' => w'.cell? ⟨b, 2, none⟩ = some (.slice (some B) r.length cB))
            (first | go_keep | exact cellB (by assumption) HC.out.2.1)
            (first
              | (go_at_call 106; refine (parts_calls ks _ _ _ (by first | exact HU3.out | exact HU3.out.keep Keeps.drew)).mono ?_; rintro e w4 ⟨v4, rfl, hv4, rfl⟩; have HV4 := Lib.hid hv4; obtain ⟨A4, c4, rfl, _⟩ := hv4)
              | (go_at_call 95; refine (HOF.out _ _ _ (by first | exact drew_of hb3 | exact hb3) HV4.out (by first | exact HP3.out | exact HP3.out.keep Keeps.drew)).mono ?_; rintro e w5 ⟨p, rfl, hp, hb⟩; have HP := Lib.hid hp; clear hp))
          go_wp2_with fail
          go_ret2
          rw [HF.out]
          exact ⟨_, p, rfl, HU.out.keep (keeps_old hb), HP.out, hb⟩
end Go.Proofs.YtjjbhnkplbjfeaaDoor
