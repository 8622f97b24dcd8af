/- The last part of a tree, and the tree without it. -/
import Derived.Test.YtjjbhnkplbjfeaaDoorCFnI

set_option linter.unusedVariables false
set_option linter.unusedSimpArgs false
namespace Go.Proofs.YtjjbhnkplbjfeaaDoor
open Go.RowKit
attribute [local go_sem] lt_succ_of methItem methNode asItem asNode isNode noNode fieldNode fieldItem notNil

set_option maxRecDepth 100000 in
set_option maxHeartbeats 8000000 in
theorem last_calls (t : Ft) : ∀ (k : Nat) (p : Option Addr) (w : World) (S : Nat → Prop), IsF w S t p → Ft.Ok k t → t.isNil = false → t.items.length ≤ 4294967296 →
    Calls Tryd.prog 76 #[.pointer p] w fun e w' => MadeX w S t.last e w' := by
  induction t with
  | nil => intro k p w S _ _ h; cases h
  | mk l m r ih =>
    intro k p w S ht hok _ hm
    obtain ⟨b, vl, vr, q, rfl, hs, c0, c1, c2, c3, hl, hr, hq⟩ := ht.eq
    obtain ⟨h1, h2, h3, h4, h5, h6, h7⟩ := hok
    have hbl := World.block_lt_of_cell? w _ c0
    have hmm : (Ft.items (.mk l m r)).length = (Pt.flat l).length + m.items.length + (Pt.flat r).length := by simp [Ft.items]; omega
    rw [hmm] at hm
    have hA := alone_calls l r m b w S ht
    obtain ⟨A, cA, rfl, hcA, hPA⟩ := hl.addr h3
    by_cases hr0 : r.length = 0
    · obtain ⟨_, u0, hu0, hc0⟩ := hPA.at 0 (by omega)
      rw [Nat.zero_add] at hc0
      have hca : w.cell? A = some u0 := by simpa [Addr.add] using hc0
      obtain ⟨t0, x0, rfl⟩ := hu0.form
      have hAl := World.block_lt_of_cell? w _ hca
      have HU := Lib.hid hu0
      have hlp : decide (0 < l.length) = true := by simpa using h3
      have hli : (0 : Int) < (l.length : Int) := by omega
      rw [decide_eq_true hr0] at hA
      have HA := Lib.hid hA
      have HF : Hid ((Ft.mk l m r).last = (ptAt l 0, .nil)) := Lib.hid (by simp only [Ft.last]; rw [if_pos hr0])
      clear ih ht hl hr hq hA h1 h2 h5 h6 h7 hm hmm hr0 hPA c0 hc0 hu0
      go_enter Tryd.func76, Tryd.ntmps76
      go_wp2_with (first
        | (go_at_call 94; refine HA.out.mono ?_; rintro e w2 ⟨rfl, rfl⟩))
      go_ret2
      rw [HF.out]
      exact ⟨_, none, rfl, HU.out.keep (keeps_old (Below.refl _ _)), rfl, Below.refl _ _⟩
    · rw [decide_eq_false hr0] at hA
      have HA := Lib.hid hA
      obtain ⟨B, cB, rfl, hcB, hPB⟩ := hr.addr (by omega)
      obtain ⟨n, hn⟩ : ∃ n, r.length = n + 1 := ⟨r.length - 1, by omega⟩
      obtain ⟨_, u0, hu0, hc0⟩ := hPB.at n (by omega)
      rw [Nat.zero_add] at hc0
      obtain ⟨t0, x0, rfl⟩ := hu0.form
      have hBl := World.block_lt_of_cell? w _ hc0
      have HU := Lib.hid hu0
      have hn4 : n ≤ 3 := by omega
      have hnB : n + 1 ≤ cB := by omega
      have e9 : (n : Int) < (n : Int) + 1 := by omega
      have hflr : (Pt.flat r).length = (Pt.flat (r.take n)).length + (Pt.items (ptAt r n)).length := by
        have e : r = r.take n ++ [ptAt r n] := by rw [← ptAt_take (by omega), List.take_of_length_le (by omega)]
        conv => lhs; rw [e, pflat_append, pflat_one, List.length_append]
      have HC := Lib.hid (And.intro c1 (And.intro c2 c3))
      by_cases hl2 : 0 < n
      · have e1 : (0 : Int) < (n : Int) := by omega
        have e2 : n ≤ cB := by omega
        have e3 : (n : Int) ≤ (cB : Int) := by omega
        have hPD := PC.take n hPB
        have htl : (r.take n).length = n := by rw [List.length_take]; omega
        have HOF : Hid (∀ W, Below w.heap.size w W → Calls Tryd.prog 95 #[.slice (some A) l.length cA, .pointer q, .slice (some B) n n] W fun e w' => MadeF w S (Ft.mk l m (r.take n)) e w') := Lib.hid fun W hb => by
          have h9 : IsPs W (Old w S) (r.take n) (.slice (some B) n n) := by
            have := (IsPs.of (cap := n) (by omega) hPD).keep (keeps_old hb)
            rwa [htl] at this
          exact (of_calls l (r.take n) m _ _ q _ (Old w S) (hl.keep (keeps_old hb)) h9 (hq.keep (keeps_old hb)) (by simp only [Ft.items, List.length_append]; omega) (by omega) (by omega)).mono fun e w' h => made_later hb h
        have HF : Hid ((Ft.mk l m r).last = (ptAt r n, .mk l m (r.take n))) := Lib.hid (by simp only [Ft.last]; rw [if_neg hr0, if_pos (by omega), hn]; rfl)
        rw [hn] at c2 HC
        clear ih ht hl hr hq hA h1 h2 h5 h6 h7 hm hmm hr0 hPA c0 hu0 hflr hPD hPB htl hn hcB
        go_enter Tryd.func76, Tryd.ntmps76
        go_wp2_with (go_at_call 94; refine HA.out.mono ?_; rintro e w2 ⟨rfl, rfl⟩)
        go_region_held3 (fun w' => w'.cell? ⟨b, 1, none⟩ = some (.slice (some A) l.length cA) ∧ w'.cell? ⟨b, 2, none⟩ = some (.slice (some B) (n + 1) cB) ∧ w'.cell? ⟨b, 3, none⟩ = some (.pointer q))
          (first | go_keep | exact cells3 (by first | assumption | exact alloc_of (by assumption) _) HC.out)
          (first
            | (go_at_call 95; refine (HOF.out _ (by first | exact drew_of (Below.refl _ _) | exact Below.refl _ _)).mono ?_; rintro e w3 ⟨p, rfl, hp, hb⟩; have HP := Lib.hid hp; clear hp))
        go_wp2_with fail
        go_ret2
        rw [HF.out]
        exact ⟨_, p, rfl, HU.out.keep (keeps_old hb), HP.out, hb⟩
      · obtain rfl : n = 0 := by omega
        cases hmn : m.isNil with
        | true =>
          obtain rfl := isNil_nil hmn
          obtain rfl := hq.nil_eq
          have HFE := Lib.hid (few_calls l k _ w S hl (by omega) h1 (by omega) (by omega))
          have HF : Hid ((Ft.mk l .nil r).last = (ptAt r 0, Ft.few l)) := Lib.hid (by simp only [Ft.last]; rw [if_neg hr0, if_neg (by omega), hn]; rfl)
          have hb0 : w.cell? B = some (.iface t0 x0) := by simpa [Addr.add] using hc0
          rw [hn] at c2 HC
          clear ih ht hl hr hq hA h1 h2 h5 h6 h7 hm hmm hr0 hPA hu0 hflr hPB hmn hcB hl2 hn e9
          go_enter Tryd.func76, Tryd.ntmps76
          go_wp2_with (first
            | (go_at_call 94; refine HA.out.mono ?_; rintro e w2 ⟨rfl, rfl⟩)
            | (go_at_call 105; refine HFE.out.mono ?_; rintro e w3 ⟨p, rfl, hp, hb⟩; have HP := Lib.hid hp; clear hp))
          go_ret2
          rw [HF.out]
          exact ⟨_, p, rfl, HU.out.keep (keeps_old hb), HP.out, hb⟩
        | false =>
          obtain ⟨bq, rfl⟩ := mk_some hq hmn
          obtain ⟨o1, o2, o3⟩ := last_ok h6 hmn
          obtain ⟨ks, ek, hk3, hkl⟩ := o1.succ
          have HI := Lib.hid (ih (k + 1) (some ⟨bq, 0, none⟩) w S hq h6 hmn (by omega))
          have hlen : m.items.length = m.last.2.items.length + (Pt.flat ks).length := by rw [o3, ek, pnode_items, List.length_append]
          have HOF : Hid (∀ W vl p, Below w.heap.size w W → IsPs W (Old w S) ks vl → IsF W (Old w S) m.last.2 p → Calls Tryd.prog 95 #[.slice (some A) l.length cA, .pointer p, vl] W fun e w' => MadeF w S (Ft.mk l m.last.2 ks) e w') := Lib.hid fun W vl p hb hv hp =>
            (of_calls l ks _ _ _ p _ (Old w S) (hl.keep (keeps_old hb)) hv hp (by simp only [Ft.items, List.length_append]; omega) (by omega) (by omega)).mono fun e w' h => made_later hb h
          have HF : Hid ((Ft.mk l m r).last = (ptAt r 0, .mk l m.last.2 ks)) := Lib.hid (by simp only [Ft.last, hmn, ek, Pt.parts]; rw [if_neg hr0, if_neg (by omega), hn]; rfl)
          have HEK := Lib.hid ek
          have hb0 : w.cell? B = some (.iface t0 x0) := by simpa [Addr.add] using hc0
          rw [hn] at c2 HC
          clear ih ht hl hr hq hA h1 h2 h5 h6 h7 hm hmm hr0 hPA hu0 hflr hPB hmn o1 o2 o3 hkl hk3 hlen ek hcB hl2 hn e9
          go_enter Tryd.func76, Tryd.ntmps76
          go_wp2_with (first
            | (go_at_call 94; refine HA.out.mono ?_; rintro e w2 ⟨rfl, rfl⟩)
            | (go_at_call 76; refine HI.out.mono ?_; rintro e w3 ⟨u3, p3, rfl, hu3, hp3, hb3⟩; rw [HEK.out] at hu3; obtain ⟨t3, x3, rfl⟩ := hu3.form; have HU3 := Lib.hid hu3; have HP3 := Lib.hid hp3; have d1 := cellB hb3 c1; have hbl3 := World.block_lt_of_cell? w3 _ d1; clear hu3 hp3 HI))
          go_region_held3 (fun w' => w'.cell? ⟨b, 1, none⟩ = some (.slice (some A) l.length cA))
            (first | go_keep | exact cellB (by assumption) HC.out.1)
            (first
              | (go_at_call 106; refine (parts_calls ks _ _ _ (by first | exact HU3.out | exact HU3.out.keep Keeps.drew)).mono ?_; rintro e w4 ⟨v4, rfl, hv4, rfl⟩; have HV4 := Lib.hid hv4; obtain ⟨A4, c4, rfl, _⟩ := hv4)
              | (go_at_call 95; refine (HOF.out _ _ _ (by first | exact drew_of hb3 | exact hb3) HV4.out (by first | exact HP3.out | exact HP3.out.keep Keeps.drew)).mono ?_; rintro e w5 ⟨p, rfl, hp, hb⟩; have HP := Lib.hid hp; clear hp))
          go_wp2_with fail
          go_ret2
          rw [HF.out]
          exact ⟨_, p, rfl, HU.out.keep (keeps_old hb), HP.out, hb⟩
end Go.Proofs.YtjjbhnkplbjfeaaDoor
