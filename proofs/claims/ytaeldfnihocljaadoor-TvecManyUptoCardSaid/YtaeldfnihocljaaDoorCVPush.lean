/- A vector with an item more at its end. A tree without its last item. A vector without its last item. -/
import Derived.Test.YtaeldfnihocljaaDoorCPush
import Derived.Test.YtaeldfnihocljaaDoorCRrbO
/- A vector with an item more at its end. -/
set_option linter.unusedVariables false
set_option linter.unusedSimpArgs false
namespace Go.Proofs.YtaeldfnihocljaaDoor
open Go.RowKit
attribute [local go_sem] lt_succ_of methLeaf methBranch asNone asSome asLeaf asBranch

/-- What is wrong with an item more. -/
def pushE (l : List V) (x : V) : Int := if rightB x = true then (if 65536 ≤ l.length then 2 else 0) else 3
theorem dn_high : ∀ (h : Nat) (ks : List N), Dn (h + 2) (.branch ks) → 2 ≤ ks.length → 32 ^ (h + 1) ≤ (N.flat ks).length := by
  intro h ks hd h2
  obtain ⟨js, k, e, h1, h3, h4⟩ := hd
  injection e with e
  subst e
  cases js with
  | nil => simp at h2
  | cons j js =>
    have h5 := (h3 j (by simp)).length
    rw [List.cons_append, N.flat, List.length_append, h5]
    omega
/-- A vector's height is bounded by how many items it has. -/
theorem IsR.high {w : World} {S : Nat → Prop} {l : List V} {h b : Nat} (hr : IsR w S l h b) : h = 0 ∨ 32 ^ (h - 1) ≤ l.length := by
  obtain ⟨_, _, _, ⟨_, h0, _⟩ | ⟨n, u, _, _, hn, hd, h1 | ⟨ks, hk, h2⟩⟩⟩ := hr
  · exact .inl h0
  · subst h1
    have := hd.pos
    rw [hn] at this
    exact .inr (by have e : 32 ^ (1 - 1) = 1 := rfl; omega)
  · subst hk
    obtain ⟨g, rfl⟩ := hd.height
    have := dn_high g ks hd h2
    rw [← hn, N.items]
    exact .inr (by simpa using this)
theorem IsR.flat {w : World} {S : Nat → Prop} {l : List V} {h b : Nat} (hr : IsR w S l h b) : h ≤ 65536 := by
  have hl := hr.2.2.1
  rcases hr.high with h0 | h1
  · omega
  · have : h - 1 < 32 ^ (h - 1) := Nat.lt_pow_self (by omega)
    omega
/-- A box stored into. -/
theorem store_box {w : World} {b0 : Nat} {c0 c1 c2 c3 : Value} {t : TypeId} (h : w.heap[b0]? = some (.cells #[c0, c1, c2, c3] t (0, 0))) (d0 d1 d2 d3 : Value) :
    ∃ w5, (((w.setCell ⟨b0, 0, none⟩ d0).setCell ⟨b0, 1, none⟩ d1).setCell ⟨b0, 2, none⟩ d2).setCell ⟨b0, 3, none⟩ d3 = w5 ∧ w5.heap[b0]? = some (.cells #[d0, d1, d2, d3] t (0, 0)) ∧ w5.heap.size = w.heap.size ∧ (∀ b, b ≠ b0 → w5.heap[b]? = w.heap[b]?) ∧ ∀ B, B ≤ b0 → Below B w w5 := by
  refine ⟨_, rfl, ?_, by simp, fun b hb => ?_, fun B hB => ?_⟩
  · have h1 := blockset h 0 d0
    have h2 := blockset h1 1 d1
    have h3 := blockset h2 2 d2
    have h4 := blockset h3 3 d3
    simpa using h4
  · rw [Below.heap_setCell _ _ _ _ hb, Below.heap_setCell _ _ _ _ hb, Below.heap_setCell _ _ _ _ hb, Below.heap_setCell _ _ _ _ hb]
  · repeat refine Below.setCell ?_ hB _
    exact Below.refl _ _
set_option maxRecDepth 100000 in
set_option maxHeartbeats 8000000 in
theorem vpush_calls (l : List V) (h b : Nat) (x : V) (vx : Value) (w : World) (S : Nat → Prop) (hr : IsR w S l h b) (hx : IsV w S x vx) (hT : Lib.Utf8Tabs 0 1 w) :
    Calls Tryd.prog 20 #[.pointer (some ⟨b, 0, none⟩), vx] w fun e w' => ∃ p, e = .returned (.tuple #[p, .int .i64 (pushE l x)]) ∧ ((pushE l x ≠ 0 ∧ p = .pointer none) ∨ (pushE l x = 0 ∧ ∃ h' b', p = .pointer (some ⟨b', 0, none⟩) ∧ IsR w' (Old w S) (l ++ [x]) h' b')) ∧ Below w.heap.size w w' := by
  obtain ⟨hbx, Ax, cx, rfl, hcx, hAx⟩ := hx.eq
  obtain ⟨w1, hw1, hB1, hsz, hb0⟩ := box0 w 31 (.int .i64 x.kind) (.int .i64 x.num) (.string x.text) (.slice Ax x.items.length cx)
  have hK1 : Keeps w S w1 (fun b => S b ∧ b < w.heap.size) := Keeps.below_to hB1 fun b h1 h2 => ⟨h2, h1⟩
  obtain ⟨e0, e1, e2, e3⟩ := block4 hb0
  have hX1 := (IsV.mk hbx hcx hAx).keep hK1
  have HX := Lib.hid hX1
  have HR := Lib.hid (hr.keep hK1)
  have HCK := Lib.hid (check_calls x _ w1 _ hX1 (tabs_below hT hB1))
  have hfl := hr.flat
  have HB0 := Lib.hid hb0
  clear hx hAx hX1 hr hT hb0 hK1
  by_cases hc : rightB x = true
  · have hE : pushE l x = if 65536 ≤ l.length then 2 else 0 := by unfold pushE; rw [if_pos hc]
    rw [if_pos hc] at HCK
    clear hc
    by_cases h65 : 65536 ≤ l.length
    · rw [if_pos h65] at hE
      rw [hE]
      clear hE
      have h66 : (65536 : Int) ≤ (l.length : Int) := by omega
      go_enter Tryd.func20, Tryd.ntmps20
      go_wp2_with (first | (go_at_call 51; refine HCK.out.mono ?_; rintro e w2 ⟨rfl, hb2⟩; have HL := Lib.hid (len_calls l h b w2 _ (HR.out.below hb2))) | (go_at_call 24; refine HL.out.mono ?_; rintro e w3 ⟨rfl, hb3⟩))
      go_ret2
      exact ⟨_, rfl, .inl ⟨by decide, rfl⟩, below_then (below_then hB1 hB1.size hb2) (below_then hB1 hB1.size hb2).size hb3⟩
    · rw [if_neg h65] at hE
      rw [hE]
      clear hE
      have h66 : ¬ (65536 : Int) ≤ (l.length : Int) := by omega
      have h67 : decide ((65536 : Int) ≤ (l.length : Int)) = false := decide_eq_false h66
      have h68 : decide ((l.length : Int) ≥ (65536 : Int)) = false := decide_eq_false h66
      have h69 : (l.length : Int) < 65536 := by omega
      clear h65 h66
      go_enter Tryd.func20, Tryd.ntmps20
      go_wp2_with (first
        | (go_at_call 51; refine HCK.out.mono ?_; rintro e w2 ⟨rfl, hb2⟩; have HL := Lib.hid (len_calls l h b w2 _ (HR.out.below hb2)))
        | (go_at_call 24; refine HL.out.mono ?_; rintro e w3 ⟨rfl, hb3⟩; have hb4 := below_then hb2 hb2.size hb3; have hk3 := blockB hb4 HB0.out; obtain ⟨f0, f1, f2, f3⟩ := block4 hk3; have HOWN := Lib.hid (own_calls x _ w3 _ (HX.out.below hb4)); have HL3 := Lib.hid (HR.out.below hb4))
        | (go_at_call 48; refine HOWN.out.mono ?_; rintro e w4 ⟨v, rfl, hv, hb5⟩; obtain ⟨hbv, A4, c4, rfl, hc4, hA4⟩ := hv.eq; have hk4 := blockB hb5 hk3; obtain ⟨g0, g1, g2, g3⟩ := block4 hk4; have fz := free4 hk4; have hb6 := below_then hb4 hb4.size hb5; have HV4 := Lib.hid hv; clear hv hk3))
      obtain ⟨w5, hw5, hk5, hs5, hot, hbw⟩ := store_box hk4 (.int .i64 x.kind) (.int .i64 x.num) (.string x.text) (.slice A4 x.items.length c4)
      rw [hw5]
      have hs3 := hb4.size
      have HR5 := Lib.hid ((HL3.out.below hb5).keep (w' := w5) (S' := fun b => S b ∧ b < w.heap.size) fun b hb hs => ⟨hs, hot b (by have := hs.2; omega)⟩)
      have HV5 := Lib.hid (HV4.out.keep (w' := w5) (S' := fun b => w.heap.size < b) fun b hb (hs : w3.heap.size ≤ b) => ⟨by show w.heap.size < b; omega, hot b (by omega)⟩)
      have hb7 : Below w.heap.size w w5 := (below_then hB1 hB1.size hb6).trans (hbw _ (Nat.le_refl _))
      have HL5 := Lib.hid (len_calls l h b w5 _ HR5.out)
      refine HL5.out.mono ?_
      rintro e w6 ⟨rfl, hb8⟩
      have hk6 := blockB hb8 hk5
      obtain ⟨q0, q1, q2, q3⟩ := block4 hk6
      have hb9 := below_then hb7 hb7.size hb8
      have HR6 := Lib.hid (HR5.out.below hb8)
      have HV6 := Lib.hid (HV5.out.below hb8)
      clear f0 f1 f2 f3 g0 g1 g2 g3 fz hk4 hk5 hk6 HOWN HL3 HR5 HV5 HL5 HV4 hot hbw HCK HX HL hw5
      by_cases h0 : l.length = 0
      · obtain rfl : l = [] := List.eq_nil_of_length_eq_zero h0
        simp only [List.length_nil]
        go_wp2_with fail
        go_ret2
        obtain ⟨hbx6, A6, c6, e6, hc6, hA6⟩ := HV6.out.eq
        simp only [Value.agg.injEq, Array.mk.injEq, List.cons.injEq, Value.slice.injEq, true_and, and_true] at e6
        obtain ⟨rfl, rfl⟩ := e6
        obtain ⟨w7, hw7, hB7, hs7, hk7⟩ := box0 w6 31 (.int .i64 x.kind) (.int .i64 x.num) (.string x.text) (.slice A4 x.items.length c4)
        rw [hw7]
        have hw6 := hb9.size
        have hvc := (VC.mk hbx6 hc6 hA6).keep (S' := Old w S) (w' := w7) fun b hb hs => ⟨.inr (Nat.le_of_lt hs), hB7.block b hb⟩
        have hlf := IsN.leaf_mk (w := w7) (S := Old w S) (l := [x]) (A := some ⟨w6.heap.size, 0, none⟩) (cap := 1) (by simp) (.inr ⟨_, rfl, by
          simp only [LC]
          refine ⟨.inr hw6, ⟨_, hvc, fun j u hu => ?_⟩, trivial⟩
          rw [plus0, Nat.zero_add]
          simp only [World.cell?, hk7]
          simpa using hu⟩)
        have hnew := cell_new2 w7 (.iface 87 (.slice (some ⟨w6.heap.size, 0, none⟩) 1 1)) (.int .i64 1) 83
        refine ⟨.pointer (some ⟨w6.heap.size + 1, 0, none⟩), rfl, .inr ⟨by trivial, 1, w7.heap.size, by rw [hs7], ⟨.inr (by omega), hnew.2, by simp, .inr ⟨.leaf [x], _, hnew.1, hlf.keep (Keeps.alloc _), rfl, ⟨[x], rfl, by simp, by simp⟩, .inl rfl⟩⟩⟩, (below_then hb9 hw6 hB7).alloc (by omega) _⟩
      · obtain ⟨hsb, ch, hl65, ⟨hl0, _⟩ | ⟨nd, u, c0, hu, hn, hd, hroot⟩⟩ := HR6.out
        · exact absurd (by rw [hl0]; rfl) h0
        have h1 : ((l.length : Int) == 0) = false := by simpa using h0
        have HL65 := Lib.hid hl65
        have HFL := Lib.hid hfl
        have h69' := Lib.hid h69
        obtain ⟨t, y, rfl⟩ := hu.form
        have HN := Lib.hid (And.intro hu (And.intro hn (And.intro hd hroot)))
        have hbw : b < w6.heap.size := World.block_lt_of_cell? w6 _ c0
        clear hl65 hu hn hd hroot h0 h69 hfl
        go_wp2_with fail
        have hdw := (Below.refl w6.heap.size w6).drew
        have HP := Lib.hid (push_all h nd (.iface t y) x _ w6.drew (fun b => (S b ∧ b < w.heap.size) ∨ w.heap.size < b) HN.out.2.2.1 (HN.out.1.keep fun b hb hs => ⟨.inl hs, hdw.block b hb⟩) (by rw [HN.out.2.1]; exact HL65.out) HFL.out (HV6.out.keep fun b hb hs => ⟨.inr hs, hdw.block b hb⟩))
        go_still_tail 9, (by kernel_rfl)
        go_wp2_with (go_at_call 52; refine HP.out.mono ?_)
        rintro e w7 ⟨hb10, hcase⟩
        have hb11 := below_undrew hb10
        have hb12 := below_then hb9 hb9.size hb11
        have d0 := cellB hb11 c0
        have dh := cellB hb11 ch
        have hbw7 := World.block_lt_of_cell? w7 _ d0
        have z0 := cellB hb11 q0
        have z1 := cellB hb11 q1
        have z2 := cellB hb11 q2
        have z3 := cellB hb11 q3
        clear c0 ch q0 q1 q2 q3 hbw
        rcases hcase with ⟨hpf, rfl⟩ | ⟨k', u', rfl, hu7, hd7, hi7, hr7⟩
        · obtain ⟨g, hg⟩ : ∃ g, h = g + 1 := by
            cases h with
            | zero => exact hpf.elim
            | succ g => exact ⟨g, rfl⟩
          have HPF := Lib.hid hpf
          have HSG := single_calls x _ g w7.drew (fun b => (S b ∧ b < w.heap.size) ∨ w.heap.size < b) ((HV6.out.below hb11).keep fun b hb hs => ⟨.inr hs, (Below.refl w7.heap.size w7).drew.block b hb⟩) (by have := HFL.out; omega)
          rw [← hg] at HSG
          have HSG := Lib.hid HSG
          have HN7 := Lib.hid (HN.out.1.keep (w' := w7) (S' := Old w7 (fun b => (S b ∧ b < w.heap.size) ∨ w.heap.size < b)) fun b hb hs => ⟨.inl ⟨.inl hs, by have := hb11.size; omega⟩, hb11.block b hb⟩)
          have HOK : Hid ((∀ k, k ∈ [nd, sing x h] → N.Ok k) ∧ (N.flat [nd, sing x h]).length ≤ 4294967296 ∧ Dn (h + 1) (.branch [nd, sing x h])) := by
            have h1 := HN.out.2.2.1.ok
            have h2 := HN.out.2.1
            have h3 := HL65.out
            refine Lib.hid ⟨fun k hk => ?_, ?_, ?_⟩
            · simp only [List.mem_cons, List.not_mem_nil, or_false] at hk
              rcases hk with rfl | rfl
              · exact h1
              · rw [hg]; exact sing_ok x g
            · simp only [N.flat, sing_items, h2, List.length_append, List.length_cons, List.length_nil]; omega
            · rw [hg] at hpf ⊢
              exact ⟨[nd], sing x (g + 1), rfl, by simp, by simpa using hpf, sing_dn x g⟩
          have i1 : IntKind.i64.wrap ((h : Int) + 1) = (h : Int) + 1 := IntWalk.i64_in _ (by have := HFL.out; omega)
          have HG := Lib.hid hg
          clear hpf hg
          go_wp2_with fail
          go_region_held3 (fun w' => w'.cell? ⟨b, 0, none⟩ = some (.iface t y) ∧ w'.cell? ⟨b, 1, none⟩ = some (.int .i64 (h : Int)) ∧ w'.cell? ⟨w.heap.size, 0, none⟩ = some (.int .i64 x.kind) ∧ w'.cell? ⟨w.heap.size, 1, none⟩ = some (.int .i64 x.num) ∧ w'.cell? ⟨w.heap.size, 2, none⟩ = some (.string x.text) ∧ w'.cell? ⟨w.heap.size, 3, none⟩ = some (.slice A4 x.items.length c4))
            (first | go_keep | exact ⟨d1, dh1, s0, s1, s2, s3⟩ | exact ⟨d2, dh2, y0, y1, y2, y3⟩)
            (first
              | (go_at_call 54; refine HSG.out.mono ?_; rintro e w8 ⟨u3, rfl, hu3, hb13⟩; have hb14 := below_undrew hb13; have d1 := cellB hb14 d0; have dh1 := cellB hb14 dh; have s0 := cellB hb14 z0; have s1 := cellB hb14 z1; have s2 := cellB hb14 z2; have s3 := cellB hb14 z3; obtain ⟨t3, y3', rfl⟩ := hu3.form; have HOV := Lib.hid (over_new [nd, sing x h] [.iface t y, .iface t3 y3'] w8 (Old w7 (fun b => (S b ∧ b < w.heap.size) ∨ w.heap.size < b)) ⟨_, _, rfl, HN7.out.below hb14, _, _, rfl, hu3.keep (Keeps.weak fun b hb => hb), rfl⟩ (by simp) (by simp) HOK.out.1 HOK.out.2.1); clear hu3)
              | (go_at_call 53; refine HOV.out.mono ?_; rintro e w9 ⟨b9, rfl, hb9', hb15⟩; have d2 := cellB hb15 d1; have dh2 := cellB hb15 dh1; have y0 := cellB hb15 s0; have y1 := cellB hb15 s1; have y2 := cellB hb15 s2; have y3 := cellB hb15 s3; have HB9 := Lib.hid hb9'; clear hb9'))
          all_goals go_wp2_with fail
          all_goals
            go_ret2
            have hw6 := hb9.size
            have hw7 := hb11.size
            have hw8 := hb14.size
            have hw9 := hb15.size
            have hnew := cell_new2 w9 (.iface 84 (.pointer (some ⟨b9, 0, none⟩))) (.int .i64 ((h : Int) + 1)) 83
            refine ⟨_, rfl, .inr ⟨by trivial, h + 1, w9.heap.size, rfl, ⟨.inr (by omega), hnew.2, by have := HL65.out; have := h69'.out; simp; omega, .inr ⟨.branch [nd, sing x h], _, hnew.1, IsN.branch_mk (HB9.out.keep ((Keeps.alloc _).trans (Keeps.weak fun b hb => ?_))), by simp only [N.items, N.flat, sing_items, HN.out.2.1, List.append_nil], HOK.out.2.2, .inr ⟨_, rfl, by simp⟩⟩⟩⟩, (below_then (below_then hb12 hb12.size hb14) (below_then hb12 hb12.size hb14).size hb15).alloc (by omega) _⟩
            rcases hb with ⟨⟨hb | hb, _⟩ | hb, _⟩ | hb
            · exact .inl hb
            · exact .inr (by omega)
            · exact .inr (by omega)
            · exact .inr (by omega)
        · obtain ⟨t7, y7, rfl⟩ := hu7.form
          have HK := Lib.hid (And.intro hu7 (And.intro hd7 (And.intro hi7 hr7)))
          clear hu7 hd7 hi7 hr7
          go_wp2_with fail
          go_ret2
          have hw6 := hb9.size
          have hw7 := hb11.size
          have hnew := cell_new2 w7 (.iface t7 y7) (.int .i64 (h : Int)) 83
          refine ⟨_, rfl, .inr ⟨by trivial, h, w7.heap.size, rfl, ⟨.inr (by omega), hnew.2, by have := HL65.out; have := h69'.out; simp; omega, .inr ⟨k', _, hnew.1, HK.out.1.keep ((Keeps.alloc _).trans (Keeps.weak fun b hb => ?_)), by rw [HK.out.2.2.1, HN.out.2.1], HK.out.2.1, ?_⟩⟩⟩, hb12.alloc (by omega) _⟩
          · rcases hb with ⟨hb | hb, _⟩ | (hb : w6.heap.size ≤ b)
            · exact .inl hb
            · exact .inr (by omega)
            · exact .inr (by omega)
          · rcases HN.out.2.2.2 with h1 | ⟨ks, h1, h2⟩
            · exact .inl h1
            · obtain ⟨ks', h3, h4⟩ := HK.out.2.2.2 ks h1
              exact .inr ⟨ks', h3, by omega⟩
  · have hE : pushE l x = 3 := by unfold pushE; rw [if_neg hc]
    rw [if_neg hc] at HCK
    rw [hE]
    clear hE hc
    go_enter Tryd.func20, Tryd.ntmps20
    go_wp2_with (first | (go_at_call 51; refine HCK.out.mono ?_; rintro e w2 ⟨rfl, hb2⟩))
    go_ret2
    exact ⟨_, rfl, .inl ⟨by decide, rfl⟩, below_then hB1 hB1.size hb2⟩
end Go.Proofs.YtaeldfnihocljaaDoor

/- A tree without its last item. -/
set_option linter.unusedVariables false
set_option linter.unusedSimpArgs false
namespace Go.Proofs.YtaeldfnihocljaaDoor
open Go.RowKit
attribute [local go_sem] lt_succ_of methLeaf methBranch asNone asSome asLeaf asBranch

/-- What pop says of a tree. -/
def PopAt (h : Nat) : Prop := ∀ (k : N) (u : Value) (w : World) (S : Nat → Prop), Dn h k → IsN w S k u → (N.items k).length ≤ 65536 →
  Calls Tryd.prog 55 #[u] w fun e w' => Below w.heap.size w w' ∧ (((∃ x, N.items k = [x]) ∧ e = .returned .nilIface) ∨ (∃ k' u', e = .returned u' ∧ IsN w' (Old w S) k' u' ∧ Dn h k' ∧ N.items k' = (N.items k).dropLast))
set_option maxRecDepth 100000 in
set_option maxHeartbeats 4000000 in
theorem pop_one : PopAt 1 := by
  intro k u w S hd hu hm
  obtain ⟨m, rfl, hne, h32⟩ := hd
  obtain ⟨A, cap, rfl, hcap, hA⟩ := hu.leaf_eq
  have hl0 := List.length_pos_iff.2 hne
  have HA := Lib.hid hA
  have HNE := Lib.hid hne
  clear hu hA hm hne
  by_cases hf : m.length = 1
  · have hf2 : ((m.length : Int) == 1) = true := by rw [hf]; rfl
    have HX : Hid (∃ x, m = [x]) := Lib.hid (List.length_eq_one_iff.1 hf)
    rw [hf] at hcap ⊢
    clear hf hf2 h32
    go_enter Tryd.func55, Tryd.ntmps55
    go_wp2_with fail
    go_ret
    exact ⟨Below.refl _ _, .inl ⟨HX.out, rfl⟩⟩
  · have hf2 : ((m.length : Int) == 1) = false := by simp; omega
    have i1 : IntKind.i64.wrap ((m.length : Int) - 1) = (m.length : Int) - 1 := IntWalk.i64_in _ (by omega)
    have i2 : (1 : Int) ≤ (m.length : Int) := by omega
    have i3 : ((m.length : Int) - 1).toNat = m.length - 1 := by omega
    have i4 : (m.length : Int) - 1 ≤ (cap : Int) := by omega
    have i5 : m.length - 1 ≤ cap := by omega
    go_enter Tryd.func55, Tryd.ntmps55
    go_wp2_with fail
    go_ret
    refine ⟨Below.refl _ _, .inr ⟨.leaf (m.take (m.length - 1)), _, rfl, (leaf_part HA.out (m.length - 1) (by omega)).keep (Keeps.below_to (Below.refl _ _) fun b h1 h2 => .inl ⟨h2, h1⟩), ⟨_, rfl, ?_, by rw [List.length_take]; omega⟩, by rw [N.items, N.items, List.dropLast_eq_take]⟩⟩
    intro e
    have := congrArg List.length e
    rw [List.length_take, List.length_nil] at this
    omega

theorem flat_last {ks : List N} (h0 : 0 < ks.length) : N.flat ks = N.flat (ks.take (ks.length - 1)) ++ N.items (kidAt ks (ks.length - 1)) := by
  have i7 : ks.length - 1 < ks.length := by omega
  rw [flat_split i7, List.drop_eq_nil_of_le (by omega)]
  simp [N.flat]
theorem take_last {ks : List N} (h0 : 0 < ks.length) : ks = ks.take (ks.length - 1) ++ [kidAt ks (ks.length - 1)] := by
  conv => lhs; rw [← List.take_append_drop (ks.length - 1) ks, kidAt_drop (show ks.length - 1 < ks.length by omega), List.drop_eq_nil_of_le (by omega)]
theorem Dn.parts {h : Nat} {ks : List N} (hd : Dn (h + 2) (.branch ks)) : (∀ k, k ∈ ks.take (ks.length - 1) → Pf (h + 1) k) ∧ Dn (h + 1) (kidAt ks (ks.length - 1)) := by
  obtain ⟨js, k, e, h1, h2, h3⟩ := hd
  injection e with e
  subst e
  have e1 : (js ++ [k]).length - 1 = js.length := by simp
  rw [e1]
  refine ⟨by rw [List.take_left']; exact h2; rfl, ?_⟩
  have : kidAt (js ++ [k]) js.length = k := by
    unfold kidAt
    simp [List.getD_eq_getElem?_getD]
  rwa [this]
set_option maxRecDepth 100000 in
set_option maxHeartbeats 8000000 in
theorem pop_branch (h : Nat) (ih : PopAt (h + 1)) : PopAt (h + 2) := by
  intro k u w S hd hu hm
  obtain ⟨ks, rfl⟩ : ∃ ks, k = .branch ks := by obtain ⟨ks, k', e, _⟩ := hd; exact ⟨_, e⟩
  obtain ⟨b, rfl, hB⟩ := hu.branch_eq
  have hB := hB.keep (w' := w) (S' := fun b => S b ∧ b < w.heap.size) (Keeps.below_to (Below.refl _ _) fun b h1 h2 => ⟨h2, h1⟩)
  have hk32 := hd.ok.branch.2.1
  have hk0 := List.length_pos_iff.2 hd.ok.branch.1
  simp only [N.items] at hm ⊢
  obtain ⟨hpf, hdl⟩ := hd.parts
  have hfl := flat_last hk0
  have hml : (N.items (kidAt ks (ks.length - 1))).length ≤ 65536 := by have := hm; rw [hfl, List.length_append] at this; omega
  obtain ⟨A, cA, B0, cB, hs, c0, hA, c1, hBc, hk, hu'⟩ := hB
  have hbl := World.block_lt_of_cell? w _ c0
  obtain ⟨hsA, ul, hul, hcl⟩ := hk.at (ks.length - 1) (by omega)
  rw [Nat.zero_add] at hcl
  have hAl := World.block_lt_of_cell? w _ hcl
  have HKC := Lib.hid hk
  have HM := Lib.hid hm
  have HP := Lib.hid (And.intro hpf (And.intro hdl hfl))
  have HC := Lib.hid (ih (kidAt ks (ks.length - 1)) ul w (fun b => S b ∧ b < w.heap.size) hdl hul hml)
  have i1 : IntKind.i64.wrap ((ks.length : Int) - 1) = (ks.length : Int) - 1 := IntWalk.i64_in _ (by omega)
  have i3 : (0 : Int) ≤ (ks.length : Int) - 1 := by omega
  have i8 : (1 : Int) ≤ (ks.length : Int) := by omega
  have i4 : ((ks.length : Int) - 1).toNat = ks.length - 1 := by omega
  have i5 : (ks.length : Int) - 1 < (ks.length : Int) := by omega
  have i6 : (ks.length : Int) - 1 ≤ (cA : Int) := by omega
  have i7 : ks.length - 1 < ks.length := by omega
  have i9 : ks.length - 1 ≤ cA := by omega
  clear hd ih hu hk hu' hm hul hpf hdl hfl hml
  go_enter Tryd.func55, Tryd.ntmps55
  go_wp2_with (go_at_call 55; refine HC.out.mono ?_)
  intro e w2 hb2 hcase
  have d0 := cellB hb2 c0
  have hbl2 := World.block_lt_of_cell? w2 _ d0
  have HKT := Lib.hid ((HKC.out.take (ks.length - 1)).keep (S' := Old w (fun b => S b ∧ b < w.heap.size)) (Keeps.below_to hb2 fun b h1 h2 => .inl ⟨h2, h1⟩))
  have htl : (ks.take (ks.length - 1)).length = ks.length - 1 := by rw [List.length_take]; omega
  clear HC c0
  rcases hcase with ⟨hx, rfl⟩ | ⟨k', u', rfl, hu2, hd2, hi2⟩
  · by_cases h1 : ks.length = 1
    · have j1 : (((ks.length : Int) - 1) == 0) = true := by rw [h1]; rfl
      have j2 : ks.length - 1 = 0 := by omega
      have HX : Hid (∃ x, N.flat ks = [x]) := Lib.hid (by rw [HP.out.2.2, show ks.take (ks.length - 1) = [] by rw [j2]; rfl]; simpa [N.flat] using hx)
      clear hx
      go_wp2_with fail
      go_ret
      exact ⟨hb2, .inl ⟨HX.out, rfl⟩⟩
    · have j1 : (((ks.length : Int) - 1) == 0) = false := by simp; omega
      have HX := Lib.hid hx
      have H1 := Lib.hid h1
      clear hx h1
      go_wp2_with (first
        | (at_builtin; refine appendN_copy (Old w (fun b => S b ∧ b < w.heap.size)) rfl _ _ rfl (ks.take (ks.length - 1)) A cA rfl (by rw [htl]; rfl) HKT.out (by omega) ?_; intro v1 w3 hO hg; have hb3 := Below.grown (Below.refl w2.heap.size w2) hg (Nat.le_refl _) (fun k e => by cases e); obtain ⟨A4, c4, rfl, hc4, hK4⟩ := hO.kc (fun e => by have := congrArg List.length e; rw [htl, List.length_nil] at this; have := H1.out; omega); rw [htl]; have HK4 := Lib.hid hK4; rw [htl] at hc4; clear hO hg hK4)
        | fail)
      have h1 := H1.out
      have hk1 : 0 < (ks.take (ks.length - 1)).length := by rw [htl]; omega
      have hdn : Dn (h + 2) (.branch (ks.take (ks.length - 1))) := by
        have hne : ks.take (ks.length - 1) ≠ [] := List.length_pos_iff.1 hk1
        refine ⟨(ks.take (ks.length - 1)).dropLast, (ks.take (ks.length - 1)).getLast hne, by rw [List.dropLast_concat_getLast], by rw [List.length_dropLast, htl]; omega, fun x hx => HP.out.1 x (List.dropLast_subset _ hx), (HP.out.1 _ (List.getLast_mem hne)).dn⟩
      have hfl : (N.flat (ks.take (ks.length - 1))) = (N.flat ks).dropLast := by
        obtain ⟨x, hx⟩ := HX.out
        rw [HP.out.2.2, hx, List.dropLast_concat]
      have hm := HM.out
      have HOV := over_calls (ks.take (ks.length - 1)) A4 c4 w3 _ (by rw [htl]; exact hc4) HK4.out hk1 (by rw [htl]; omega) hdn.ok.branch.2.2 (by rw [hfl, List.length_dropLast]; omega)
      rw [htl] at HOV
      refine HOV.mono ?_
      rintro e w5 ⟨b5, rfl, hb5, hb6⟩
      have HB5 := Lib.hid hb5
      clear hb5
      go_wp2_with fail
      go_ret
      have s2 := hb2.size
      have s3 := hb3.size
      refine ⟨below_then (below_then hb2 s2 hb3) (below_then hb2 s2 hb3).size hb6, .inr ⟨_, _, rfl, IsN.branch_mk (HB5.out.keep (Keeps.weak fun b hb => ?_)), hdn, hfl⟩⟩
      rcases hb with ⟨(⟨hb, _⟩ | hb) | hb, _⟩ | hb
      · exact .inl hb
      · exact .inr (by omega)
      · exact .inr (by omega)
      · exact .inr (by omega)
  · obtain ⟨t, y, rfl⟩ := hu2.form
    have HU2 := Lib.hid (hu2.keep (S' := Old w (fun b => S b ∧ b < w.heap.size)) (Keeps.weak fun b hb => hb))
    have HD2 := Lib.hid (And.intro hd2 hi2)
    clear hu2 hd2 hi2
    have hs2 := hb2.size
    go_wp2_with (first
        | (at_builtin; refine appendN_copy (Old w (fun b => S b ∧ b < w.heap.size)) rfl _ _ rfl (ks.take (ks.length - 1)) A cA rfl (by rw [htl]; rfl) HKT.out (by omega) ?_; intro v1 w3 hO hg; have hb3 := Below.grown (Below.refl w2.heap.size w2) hg (Nat.le_refl _) (fun k e => by cases e); have hlt := hO.own_lt; have HU3 := Lib.hid (HU2.out.keep (w' := w3) (S' := fun b => Old w (fun b => S b ∧ b < w.heap.size) b ∧ some b ≠ v1.ownBlock) (Keeps.below_to hb3 fun b h1 h2 => ⟨h2, fun e => by have := (hlt b e.symm).1; omega⟩)); have HO3 := Lib.hid hO; obtain ⟨A3, c3, e3, hc3⟩ := hO.form; rw [htl] at e3; subst e3; have hs3 := hb3.size; clear hO hlt)
        | (at_builtin; refine appendN_one w2.heap.size (Old w (fun b => S b ∧ b < w.heap.size)) rfl _ _ rfl (.slice A3 (ks.length - 1) c3) (ks.take (ks.length - 1)) k' (.iface t y) rfl rfl HO3.out HU3.out hs3 (by omega) ?_; intro v1 w4 hO4 hg4 _; have hb4 := Below.grown hb3 hg4 hs3 (fun k hk => (HO3.out.own_lt k hk).1); obtain ⟨A4, c4, rfl, hc4, hK4⟩ := hO4.kc (by simp); have hll : (ks.take (ks.length - 1) ++ [k']).length = ks.length := (by simp; omega); rw [hll] at hc4; rw [hll]; have HK4 := Lib.hid hK4; clear hO4 hg4 hK4)
        | fail)
    have hdn : Dn (h + 2) (.branch (ks.take (ks.length - 1) ++ [k'])) := ⟨_, k', rfl, by rw [htl]; omega, HP.out.1, HD2.out.1⟩
    have hfl : (N.flat (ks.take (ks.length - 1) ++ [k'])) = (N.flat ks).dropLast := by
      have hne : N.items (kidAt ks (ks.length - 1)) ≠ [] := List.length_pos_iff.1 HP.out.2.1.pos
      rw [HP.out.2.2, flat_append, flat_one, HD2.out.2, List.dropLast_append_of_ne_nil hne]
    have hm := HM.out
    have HOV := over_calls (ks.take (ks.length - 1) ++ [k']) A4 c4 w4 _ (by rw [hll]; exact hc4) HK4.out (by rw [hll]; omega) (by rw [hll]; omega) hdn.ok.branch.2.2 (by rw [hfl, List.length_dropLast]; omega)
    rw [hll] at HOV
    refine HOV.mono ?_
    rintro e w5 ⟨b5, rfl, hb5, hb6⟩
    have HB5 := Lib.hid hb5
    clear hb5
    go_wp2_with fail
    go_ret
    have s4 := hb4.size
    refine ⟨below_then (below_then hb2 hs2 hb4) (below_then hb2 hs2 hb4).size hb6, .inr ⟨_, _, rfl, IsN.branch_mk (HB5.out.keep (Keeps.weak fun b hb => ?_)), hdn, hfl⟩⟩
    rcases hb with ⟨(⟨hb, _⟩ | hb) | hb, _⟩ | hb
    · exact .inl hb
    · exact .inr (by omega)
    · exact .inr (by omega)
    · exact .inr (by omega)
theorem pop_all : ∀ h, PopAt h
  | 0 => fun k u w S hd => hd.elim
  | 1 => pop_one
  | h + 2 => pop_branch h (pop_all (h + 1))
end Go.Proofs.YtaeldfnihocljaaDoor

/- A vector without its last item. -/
set_option linter.unusedVariables false
set_option linter.unusedSimpArgs false
namespace Go.Proofs.YtaeldfnihocljaaDoor
open Go.RowKit
attribute [local go_sem] lt_succ_of methLeaf methBranch asNone asSome asLeaf asBranch

/-- The last item. -/
def popX (l : List V) : V := (nthV l ((l.length : Int) - 1)).1
def popE (l : List V) : Int := if l.length = 0 then 6 else 0
theorem popX_last {l : List V} (h : 0 < l.length) : nthV l ((l.length : Int) - 1) = (popX l, 0) := by
  unfold popX nthV
  rw [if_pos (by omega)]
theorem store_box_drew {w : World} {b0 : Nat} {c0 c1 c2 c3 : Value} {t : TypeId} (h : w.heap[b0]? = some (.cells #[c0, c1, c2, c3] t (0, 0))) (d0 d1 d2 d3 : Value) :
    ∃ w5, ((((w.setCell ⟨b0, 0, none⟩ d0).setCell ⟨b0, 1, none⟩ d1).setCell ⟨b0, 2, none⟩ d2).setCell ⟨b0, 3, none⟩ d3).drew = w5 ∧ w5.heap[b0]? = some (.cells #[d0, d1, d2, d3] t (0, 0)) ∧ w5.heap.size = w.heap.size ∧ (∀ b, b ≠ b0 → w5.heap[b]? = w.heap[b]?) ∧ ∀ B, B ≤ b0 → Below B w w5 := by
  obtain ⟨w5, h1, h2, h3, h4, h5⟩ := store_box h d0 d1 d2 d3
  rw [h1]
  exact ⟨_, rfl, h2, h3, h4, fun B hB => (h5 B hB).drew⟩
theorem new2 (w : World) (c0 c1 : Value) (t : TypeId) {w7 : World} (h : w.alloc (.cells #[c0, c1] t) = w7) : w7.cell? ⟨w.heap.size, 0, none⟩ = some c0 ∧ w7.cell? ⟨w.heap.size, 1, none⟩ = some c1 := by
  subst h
  exact cell_new2 w c0 c1 t
set_option maxRecDepth 100000 in
set_option maxHeartbeats 8000000 in
theorem vpop_calls (l : List V) (h b : Nat) (w : World) (S : Nat → Prop) (hr : IsR w S l h b) :
    Calls Tryd.prog 21 #[.pointer (some ⟨b, 0, none⟩)] w fun e w' => ∃ p vx, e = .returned (.tuple #[p, vx, .int .i64 (popE l)]) ∧ IsV w' (fun b => w.heap.size ≤ b) (popX l) vx ∧ ((l = [] ∧ p = .pointer none) ∨ (l ≠ [] ∧ ∃ h' b', p = .pointer (some ⟨b', 0, none⟩) ∧ IsR w' (Old w S) l.dropLast h' b')) ∧ Below w.heap.size w w' := by
  obtain ⟨w1, hw1, hB1, hsz, hb0⟩ := box0 w 31 (.int .i64 0) (.int .i64 0) (.string ⟨#[]⟩) (.slice none 0 0)
  have hr1 := hr.keep (w' := w1) (S' := fun b => S b ∧ b < w.heap.size) (Keeps.below_to hB1 fun b h1 h2 => ⟨h2, h1⟩)
  have HR := Lib.hid hr1
  have hfl := hr.flat
  have hl65 := hr.2.2.1
  have HB0 := Lib.hid hb0
  clear hr hr1 hb0
  have HLC := Lib.hid (len_calls l h b w1 _ HR.out)
  by_cases h0 : l.length = 0
  · obtain rfl : l = [] := List.eq_nil_of_length_eq_zero h0
    go_enter Tryd.func21, Tryd.ntmps21
    go_wp2_with (first | (go_at_call 24; refine HLC.out.mono ?_; rintro e w2 ⟨rfl, hb2⟩; have hk2 := blockB hb2 HB0.out; obtain ⟨e0, e1, e2, e3⟩ := block4 hk2; have fz := free4 hk2; clear hk2))
    refine bodyPost_ret (v := .tuple #[.pointer none, .agg #[.int .i64 0, .int .i64 0, .string ⟨#[]⟩, .slice none 0 0], .int .i64 6]) (by simp [results, Tryd.results21, go_sem, e0, e1, e2, e3]) rfl ⟨_, _, rfl, (show IsV _ _ V.zero _ from zero_is _ _), .inl ⟨trivial, rfl⟩, ?_⟩
    repeat refine Below.setCell ?_ (by simp) _
    exact below_then hB1 hB1.size hb2
  · have h1 : ((l.length : Int) == 0) = false := by simpa using h0
    have HLP := Lib.hid (show 0 < l.length by omega)
    have i1 : IntKind.i64.wrap ((l.length : Int) - 1) = (l.length : Int) - 1 := IntWalk.i64_in _ (by omega)
    have HI : Hid (-9223372036854775808 ≤ (l.length : Int) - 1 ∧ (l.length : Int) - 1 ≤ 9223372036854775807 ∧ l.length ≤ 65536) := Lib.hid (by omega)
    have hpe : popE l = 0 := by unfold popE; rw [if_neg h0]
    rw [hpe]
    clear hl65 h0 hpe
    go_enter Tryd.func21, Tryd.ntmps21
    go_wp2_with (first
      | (go_at_call 24; refine HLC.out.mono ?_; rintro e w2 ⟨rfl, hb2⟩; have HN := nth_calls l h b ((l.length : Int) - 1) w2 _ (HR.out.below hb2) HI.out.1 HI.out.2.1; rw [popX_last HLP.out] at HN; have HN := Lib.hid HN; have HR2 := Lib.hid (HR.out.below hb2))
      | (go_at_call 15; refine HN.out.mono ?_; rintro e w3 ⟨vx, rfl, hvx, hb3⟩; have hb4 := below_then hb2 hb2.size hb3; obtain ⟨hbx, Ax, cx, rfl, hcx, hAx⟩ := hvx.eq; have HV3 := Lib.hid hvx; have HR3 := Lib.hid (HR2.out.below hb3); clear hvx hAx; obtain ⟨w4, hw4, hB4, hs4, hk4⟩ := box0 w3 31 (.int .i64 0) (.int .i64 0) (.string ⟨#[]⟩) (.slice none 0 0); obtain ⟨w5, hw5, hk5, hs5, hot5, hbw5⟩ := store_box hk4 (.int .i64 (popX l).kind) (.int .i64 (popX l).num) (.string (popX l).text) (.slice Ax (popX l).items.length cx); obtain ⟨e0, e1, e2, e3⟩ := block4 hk4; have fz := free4 hk4; have hb5 := hB4.trans (hbw5 _ (Nat.le_refl _)); have HK5 := Lib.hid hk5; have HR5 := Lib.hid (HR3.out.below hb5); have HV5 := Lib.hid (HV3.out.below hb5); clear hk4 hk5))
    obtain ⟨hsb, ch, _, ⟨hl0, _⟩ | ⟨nd, u, c0, hu, hn, hd, hroot⟩⟩ := HR5.out
    · exact absurd (by rw [hl0]; rfl) (Nat.ne_of_gt HLP.out)
    obtain ⟨t, y, rfl⟩ := hu.form
    have hbw : b < w5.heap.size := World.block_lt_of_cell? w5 _ c0
    have HPOP : Hid (Calls Tryd.prog 55 #[.iface t y] w5.drew fun e w' => Below w5.heap.size w5 w' ∧ (((∃ x, l = [x]) ∧ e = .returned .nilIface) ∨ (∃ k' t' y', e = .returned (.iface t' y') ∧ IsN w' (Old w5 (fun b => S b ∧ b < w.heap.size)) k' (.iface t' y') ∧ Dn h k' ∧ N.items k' = l.dropLast))) := by
      refine Lib.hid ((pop_all h nd (.iface t y) w5.drew (fun b => S b ∧ b < w.heap.size) hd (hu.keep Keeps.drew) (by rw [hn]; exact HI.out.2.2)).mono ?_)
      intro e w' ⟨hb, hc⟩
      rw [hn] at hc
      rcases hc with ⟨hx, he⟩ | ⟨k', u', he, h1, h2, h3⟩
      · exact ⟨below_undrew hb, .inl ⟨hx, he⟩⟩
      · obtain ⟨t', y', rfl⟩ := h1.form
        exact ⟨below_undrew hb, .inr ⟨k', t', y', he, h1.keep (Keeps.weak fun b hb => hb), h2, h3⟩⟩
    clear hu hn hd hroot
    by_cases hl1 : l.length = 1
    · have HPN : Hid (Calls Tryd.prog 55 #[.iface t y] w5.drew fun e w' => e = .returned .nilIface ∧ Below w5.heap.size w5 w') := by
        refine Lib.hid (HPOP.out.mono ?_)
        rintro e w' ⟨hb, ⟨_, he⟩ | ⟨k', t', y', _, _, hd, hi⟩⟩
        · exact ⟨he, hb⟩
        · exfalso
          have h1 := hd.pos
          rw [hi, List.length_dropLast] at h1
          omega
      have HX := Lib.hid (List.length_eq_one_iff.1 hl1)
      clear hl1 HPOP
      go_wp2_with fail
      go_region_held3 (fun w' => w'.cell? ⟨b, 0, none⟩ = some (.iface t y) ∧ w'.cell? ⟨b, 1, none⟩ = some (.int .i64 (h : Int)))
        (first | go_keep | exact ⟨d0, dh⟩)
        (first | (go_at_call 55; refine HPN.out.mono ?_; rintro e w6 ⟨rfl, hb6⟩; have d0 := cellB hb6 c0; have dh := cellB hb6 ch))
      obtain ⟨w7, hw7, hB7, hs7⟩ : ∃ w7, w6.alloc (.cells #[.nilIface, .int .i64 (h : Int)] 83) = w7 ∧ Below w6.heap.size w6 w7 ∧ w6.heap.size + 1 = w7.heap.size := ⟨_, rfl, (Below.refl _ _).alloc (Nat.le_refl _) _, by simp⟩
      have hb35 := below_then hb4 hb4.size hb5
      have hb37 := below_then hb6 hb6.size hB7
      have hk0 := blockB (below_then hb35 hb35.size hb37) HB0.out
      have hkx := blockB hb37 HK5.out
      obtain ⟨r0, r1, r2, r3⟩ := block4 hk0
      obtain ⟨x0, x1, x2, x3⟩ := block4 hkx
      have fr := free4 hk0
      have hlx := World.block_lt_of_cell? w7 _ x0
      have hn0 := new2 w6 .nilIface (.int .i64 (h : Int)) 83 hw7
      have hs4 := hb4.size
      have hne : w.heap.size ≠ w3.heap.size := by omega
      have hne2 : w3.heap.size ≠ w.heap.size := by omega
      have HK0 := Lib.hid hk0
      have HKX := Lib.hid hkx
      clear hk0 hkx e0 e1 e2 e3 fz
      all_goals go_wp2_with fail
      go_region_with (first | (go_at_call 31; refine (new_calls _).mono ?_; rintro e w8 ⟨b8, rfl, h8, hb8⟩; have hb9 := below_undrew hb8; have H8 := Lib.hid h8; have hk9 := blockB hb9 HK0.out; have hkx9 := blockB hb9 HKX.out; obtain ⟨e0, e1, e2, e3⟩ := block4 hk9; obtain ⟨y0, y1, y2, y3⟩ := block4 hkx9; have fz := free4 hk9; have hlx9 := World.block_lt_of_cell? w8 _ y0; have HK9 := Lib.hid hk9; clear h8 hk9 hkx9))
      all_goals go_wp2_with fail
      all_goals
        have hs2 := hb2.size
        have hs5 := hb35.size
        have hs7' := hb37.size
        have hs8 := hb9.size
        have h0w : w.heap.size < w1.heap.size := by omega
        obtain ⟨w9, hw9, hk9, hs9, hot9, hbw9⟩ := store_box HK9.out (.int .i64 (popX l).kind) (.int .i64 (popX l).num) (.string (popX l).text) (.slice Ax (popX l).items.length cx)
        rw [hw9]
        clear hw9 e0 e1 e2 e3 y0 y1 y2 y3 r0 r1 r2 r3 fr fz x0 x1 x2 x3
        obtain ⟨e0, e1, e2, e3⟩ := block4 hk9
        have hKf : Keeps w8 (fun b => w.heap.size < b) w9 (fun b => w.heap.size < b) := fun b hb hs => ⟨hs, hot9 b (Nat.ne_of_gt hs)⟩
        have hB9 : Below w.heap.size w w9 := (below_then (below_then (below_then hB1 hB1.size hb35) (below_then hB1 hB1.size hb35).size hb37) (below_then (below_then hB1 hB1.size hb35) (below_then hB1 hB1.size hb35).size hb37).size hb9).trans (hbw9 _ (Nat.le_refl _))
        have h8s : w7.drew.heap.size = w7.heap.size := rfl
        have hv9 : IsV w9 (fun b => w.heap.size ≤ b) (popX l) _ := ((HV5.out.keep ((Keeps.below hb37).trans (Keeps.below hb9))).keep ((Keeps.weak fun b (hb : w2.heap.size ≤ b) => show w.heap.size < b by omega).trans hKf)).keep (Keeps.weak fun b hb => Nat.le_of_lt hb)
        have hr9 : IsR w9 (Old w S) [] 0 b8 := (H8.out.keep ((Keeps.weak fun b (hb : w7.drew.heap.size ≤ b) => show w.heap.size < b by omega).trans hKf)).keep (Keeps.weak fun b hb => .inr (Nat.le_of_lt hb))
        obtain ⟨x, hx⟩ := HX.out
        have hlx : l ≠ [] := by rw [hx]; simp
        have hdx : l.dropLast = [] := by rw [hx]; rfl
        rw [hdx]
        clear hKf hot9 hbw9 hk9 HV5 H8 HK9
        refine bodyPost_ret (v := .tuple #[.pointer (some ⟨b8, 0, none⟩), .agg #[.int .i64 (popX l).kind, .int .i64 (popX l).num, .string (popX l).text, .slice Ax (popX l).items.length cx], .int .i64 0]) (by simp [results, Tryd.results21, go_sem, e0, e1, e2, e3]) rfl ⟨_, _, rfl, hv9, .inr ⟨hlx, 0, b8, rfl, hr9⟩, hB9⟩
    · have HPS : Hid (Calls Tryd.prog 55 #[.iface t y] w5.drew fun e w' => ∃ k' t' y', e = .returned (.iface t' y') ∧ IsN w' (Old w5 (fun b => S b ∧ b < w.heap.size)) k' (.iface t' y') ∧ Dn h k' ∧ N.items k' = l.dropLast ∧ Below w5.heap.size w5 w') := by
        refine Lib.hid (HPOP.out.mono ?_)
        rintro e w' ⟨hb, ⟨⟨x, hx⟩, he⟩ | ⟨k', t', y', he, h1, h2, h3⟩⟩
        · exact absurd (by rw [hx]; rfl) hl1
        · exact ⟨k', t', y', he, h1, h2, h3, hb⟩
      have HX := Lib.hid hl1
      clear hl1 HPOP
      go_wp2_with fail
      go_region_held3 (fun w' => w'.cell? ⟨b, 0, none⟩ = some (.iface t y) ∧ w'.cell? ⟨b, 1, none⟩ = some (.int .i64 (h : Int)))
        (first | go_keep | exact ⟨d0, dh⟩)
        (first | (go_at_call 55; refine HPS.out.mono ?_; rintro e w6 ⟨k', t', y', rfl, hu6, hd6, hi6, hb6⟩; have d0 := cellB hb6 c0; have dh := cellB hb6 ch; have HC6 := Lib.hid (And.intro hu6 (And.intro hd6 hi6)); clear hu6 hd6 hi6))
      obtain ⟨w7, hw7, hB7, hs7, hk7⟩ : ∃ w7, w6.alloc (.cells #[.iface t' y', .int .i64 (h : Int)] 83) = w7 ∧ Below w6.heap.size w6 w7 ∧ w6.heap.size + 1 = w7.heap.size ∧ w7.heap[w6.heap.size]? = some (.cells #[.iface t' y', .int .i64 (h : Int)] 83 (0, 0)) := ⟨_, rfl, (Below.refl _ _).alloc (Nat.le_refl _) _, by simp, heap_alloc_new w6 _⟩
      have hb35 := below_then hb4 hb4.size hb5
      have hk0 := blockB (below_then hb35 hb35.size hb6) HB0.out
      have hkx := blockB hb6 HK5.out
      have hl0 := (Array.getElem?_eq_some_iff.1 hk0).1
      have hlx := (Array.getElem?_eq_some_iff.1 hkx).1
      have HK0 := Lib.hid hk0
      have HKX := Lib.hid hkx
      have hs4 := hb4.size
      have hs6 := hb6.size
      have hs35 := hb35.size
      have HN7 : Hid (∃ k u, w7.heap[w6.heap.size]? = some (.cells #[u, .int .i64 (h : Int)] 83 (0, 0)) ∧ IsN w7 (fun b => Old w5 (fun b => S b ∧ b < w.heap.size) b ∧ b ≠ w6.heap.size) k u ∧ Dn h k ∧ N.items k = l.dropLast) :=
        Lib.hid ⟨k', _, hk7, HC6.out.1.keep (Keeps.below_to hB7 fun b h1 h2 => ⟨h2, Nat.ne_of_lt h1⟩), HC6.out.2.1, HC6.out.2.2⟩
      obtain ⟨n0, n1⟩ := new2 w6 _ _ _ hw7
      have hlg := World.block_lt_of_cell? w7 _ n0
      clear hk0 hkx e0 e1 e2 e3 fz hk7 HC6 d0 dh
      go_wp2_with fail
      have hw7 := Lib.hid hw7
      clear n0 n1 hlg
      go_loopw [] (fun wr => Hid (∃ j k u, wr.heap[w6.heap.size]? = some (.cells #[u, .int .i64 ((j : Nat) : Int)] 83 (0, 0)) ∧ IsN wr (fun b => Old w5 (fun b => S b ∧ b < w.heap.size) b ∧ b ≠ w6.heap.size) k u ∧ Dn j k ∧ N.items k = l.dropLast ∧ j ≤ h) ∧ Below w6.heap.size w6 wr) (fun wr => (intOf ((wr.cell? ⟨w6.heap.size, 1, none⟩).getD undef)).toNat)
      case atStart => exact ⟨by obtain ⟨k, u, h1, h2, h3, h4⟩ := HN7.out; exact Lib.hid ⟨h, k, u, h1, h2, h3, h4, Nat.le_refl _⟩, hB7⟩
      case round =>
        obtain ⟨HJ, hf⟩ := hrel
        obtain ⟨j, k, u, hkg, hu, hd, hi, hjh⟩ := HJ.out
        obtain ⟨n0, n1⟩ : wr.cell? ⟨w6.heap.size, 0, none⟩ = some u ∧ wr.cell? ⟨w6.heap.size, 1, none⟩ = some (.int .i64 (j : Int)) := by
          constructor <;> simp [World.cell?, hkg]
        have hlg := World.block_lt_of_cell? wr _ n0
        have fg := free4 hkg
        have hk0 := blockB hf HK0.out
        have hkx := blockB hf HKX.out
        obtain ⟨r0, r1, r2, r3⟩ := block4 hk0
        obtain ⟨x0, x1, x2, x3⟩ := block4 hkx
        have fr := free4 hk0
        have hl0 := (Array.getElem?_eq_some_iff.1 hk0).1
        have hlx := (Array.getElem?_eq_some_iff.1 hkx).1
        have HKG := Lib.hid hkg
        have HR0 := Lib.hid hk0
        have HU := Lib.hid (And.intro hu (And.intro hd hi))
        by_cases hj : 1 < j
        · have hj1 : (1 : Int) < (j : Int) := by omega
          obtain ⟨ks, rfl⟩ : ∃ ks, k = .branch ks := by
            match j, hj, hd with
            | g + 2, _, hd => obtain ⟨ks, k', e, _⟩ := hd; exact ⟨_, e⟩
          obtain ⟨bb, rfl, hB⟩ := hu.branch_eq
          obtain ⟨g, rfl⟩ := hd.height
          have hk0' := List.length_pos_iff.2 hd.ok.branch.1
          obtain ⟨A, cA, B0, cB, hs, c0', hA, c1', hBc, hkc, hu'⟩ := hB
          have hbb := World.block_lt_of_cell? wr _ c0'
          by_cases hl2 : 1 < ks.length
          · have hl3 : (1 : Int) < (ks.length : Int) := by omega
            clear hkg hk0 hkx hu hd hi hkc hu' HJ
            go_wp2_with fail
            go_region
            all_goals go_wp2_with fail
            all_goals
              obtain ⟨w9, hw9, hk9, hs9, hot9, hbw9⟩ := store_box_drew (w := wr) HR0.out (.int .i64 (popX l).kind) (.int .i64 (popX l).num) (.string (popX l).text) (.slice Ax (popX l).items.length cx)
              rw [hw9]
              have hsr := hf.size
              have hsd : wr.drew.heap.size = wr.heap.size := rfl
              have hg0 : w.heap.size < w6.heap.size := by omega
              have hKf : Keeps wr (fun b => w.heap.size < b) w9 (fun b => w.heap.size < b) := fun b hb hs => ⟨hs, hot9 b (Nat.ne_of_gt hs)⟩
              have hBb := below_then (below_then hB1 hB1.size hb35) (below_then hB1 hB1.size hb35).size hb6
              have hBr := below_then hBb hBb.size hf
              have hB9 : Below w.heap.size w w9 := hBr.trans (hbw9 _ (Nat.le_refl _))
              have hs2 := hb2.size
              have hv9 : IsV w9 (fun b => w.heap.size ≤ b) (popX l) (.agg #[.int .i64 (popX l).kind, .int .i64 (popX l).num, .string (popX l).text, .slice Ax (popX l).items.length cx]) := ((HV5.out.keep ((Keeps.below hb6).trans (Keeps.below hf))).keep ((Keeps.weak fun b (hb : w2.heap.size ≤ b) => show w.heap.size < b by omega).trans hKf)).keep (Keeps.weak fun b hb => Nat.le_of_lt hb)
              have hr9 : IsR w9 (Old w S) l.dropLast (g + 2) w6.heap.size := by
                have e1 : w9.heap[w6.heap.size]? = _ := (hot9 _ (Nat.ne_of_gt hg0)).trans HKG.out
                have hne : ∀ b, (S b ∧ b < w.heap.size) → b ≠ w.heap.size := fun b h => Nat.ne_of_lt h.2
                refine ⟨.inr (by omega), by simp [World.cell?, e1], by have := HI.out.2.2; simp; omega, .inr ⟨(.branch ks), _, by simp only [World.cell?, e1]; rfl, HU.out.1.keep (fun b hb hs => ?_), HU.out.2.2, HU.out.2.1, (.inr ⟨ks, rfl, hl2⟩)⟩⟩
                rcases hs.1 with ⟨h1, _⟩ | h1
                · exact ⟨.inl h1, hot9 b (Nat.ne_of_lt h1.2)⟩
                · exact ⟨.inr (by omega), hot9 b (by omega)⟩
              have hll : l ≠ [] := List.length_pos_iff.1 HLP.out
              clear hw9 r0 r1 r2 r3 fr
              obtain ⟨e0, e1, e2, e3⟩ := block4 hk9
              clear hKf hot9 hbw9 hk9 HV5 x0 x1 x2 x3 n0 n1
              refine bodyPost_ret (v := .tuple #[.pointer (some ⟨w6.heap.size, 0, none⟩), .agg #[.int .i64 (popX l).kind, .int .i64 (popX l).num, .string (popX l).text, .slice Ax (popX l).items.length cx], .int .i64 0]) (by simp [results, Tryd.results21, go_sem, e0, e1, e2, e3]) rfl ⟨_, _, rfl, hv9, .inr ⟨hll, (g + 2), _, rfl, hr9⟩, hB9⟩
          · have hl3 : ¬ (1 : Int) < (ks.length : Int) := by omega
            have hl4 : ks.length = 1 := by omega
            obtain ⟨k1, rfl⟩ := List.length_eq_one_iff.1 hl4
            simp only [KC] at hkc
            obtain ⟨hsA, ⟨u1, hu1, hcu⟩, _⟩ := hkc
            have hcA : wr.cell? A = some u1 := by simpa [Addr.add] using hcu
            have hAl := World.block_lt_of_cell? wr _ hcA
            have hd1 : Dn (g + 1) k1 := by
              have := hd.kid 0 (by simp)
              simpa [kidAt] using this
            have hi1 : N.items k1 = l.dropLast := by rw [← hi, N.items, flat_one]
            obtain ⟨t1, y1, rfl⟩ := hu1.form
            have HU1 := Lib.hid (And.intro hu1 (And.intro hd1 hi1))
            have i8 : IntKind.i64.wrap (((g + 2 : Nat) : Int) - 1) = ((g + 1 : Nat) : Int) := by rw [IntWalk.i64_in _ (by omega)]; omega
            have i9 : IntKind.i64.wrap ((g : Int) + 2 - 1) = ((g + 1 : Nat) : Int) := by rw [IntWalk.i64_in _ (by omega)]; omega
            have hbg : bb ≠ w6.heap.size := hs.2
            have hbg2 := Ne.symm hbg
            have hAg : A.block ≠ w6.heap.size := hsA.2
            have hAg2 := Ne.symm hAg
            simp only [List.length_cons, List.length_nil] at hA hl3 c0'
            clear hkg hk0 hkx hu hd hi hu' HJ hu1 hd1 hi1 hcu hl2 hl4
            go_wp2_with fail
            go_region
            all_goals go_wp2_with fail
            all_goals
              have hkg1 := blockset HKG.out 0 (Value.iface t1 y1)
              have hkg2 := blockset hkg1 1 (Value.int .i64 ((g : Int) + 1))
              have hK1 : Keeps wr (fun b => Old w5 (fun b => S b ∧ b < w.heap.size) b ∧ b ≠ w6.heap.size) ((wr.setCell ⟨w6.heap.size, 0, none⟩ (Value.iface t1 y1)).setCell ⟨w6.heap.size, 1, none⟩ (Value.int .i64 ((g : Int) + 1))).drew (fun b => Old w5 (fun b => S b ∧ b < w.heap.size) b ∧ b ≠ w6.heap.size) :=
                Keeps.drew_after (Keeps.set_after (Keeps.set (fun h => h.2 rfl) _) (fun h => h.2 rfl) _)
              have HKG2 := Lib.hid hkg2
              have HK1 := Lib.hid hK1
              clear hkg1 hkg2 hK1
              go_roundw
            case rel =>
              refine ⟨Lib.hid ⟨g + 1, k1, .iface t1 y1, ?_, HU1.out.1.keep HK1.out, HU1.out.2.1, HU1.out.2.2, by omega⟩, ?_⟩
              · refine Eq.trans (b := ((wr.setCell ⟨w6.heap.size, 0, none⟩ (Value.iface t1 y1)).setCell ⟨w6.heap.size, 1, none⟩ (Value.int .i64 ((g : Int) + 1))).heap[w6.heap.size]?) rfl ?_
                rw [HKG2.out]
                simp
              · exact ((hf.setCell (p := ⟨w6.heap.size, 0, none⟩) (Nat.le_refl _) _).setCell (p := ⟨w6.heap.size, 1, none⟩) (Nat.le_refl _) _).drew
            case measure =>
              have h2 := HKG2.out
              have h3 : (((wr.setCell ⟨w6.heap.size, 0, none⟩ (Value.iface t1 y1)).setCell ⟨w6.heap.size, 1, none⟩ (Value.int .i64 ((g : Int) + 1))).drew).cell? ⟨w6.heap.size, 1, none⟩ = some (Value.int .i64 ((g : Int) + 1)) := by
                simp only [World.cell?]
                rw [show (((wr.setCell ⟨w6.heap.size, 0, none⟩ (Value.iface t1 y1)).setCell ⟨w6.heap.size, 1, none⟩ (Value.int .i64 ((g : Int) + 1))).drew).heap[w6.heap.size]? = _ from h2]
                rfl
              rw [h3, n1]
              simp [intOf]
        · have hj1 : ¬ (1 : Int) < (j : Int) := by omega
          obtain rfl : j = 1 := by
            match j, hj, hd with
            | 1, _, _ => rfl
            | g + 2, hj, _ => omega
          clear hkg hk0 hkx hu HJ hd hi
          go_wp2_with fail
          go_region
          all_goals go_wp2_with fail
          all_goals
            obtain ⟨w9, hw9, hk9, hs9, hot9, hbw9⟩ := store_box_drew (w := wr) HR0.out (.int .i64 (popX l).kind) (.int .i64 (popX l).num) (.string (popX l).text) (.slice Ax (popX l).items.length cx)
            rw [hw9]
            have hsr := hf.size
            have hsd : wr.drew.heap.size = wr.heap.size := rfl
            have hg0 : w.heap.size < w6.heap.size := by omega
            have hKf : Keeps wr (fun b => w.heap.size < b) w9 (fun b => w.heap.size < b) := fun b hb hs => ⟨hs, hot9 b (Nat.ne_of_gt hs)⟩
            have hBb := below_then (below_then hB1 hB1.size hb35) (below_then hB1 hB1.size hb35).size hb6
            have hBr := below_then hBb hBb.size hf
            have hB9 : Below w.heap.size w w9 := hBr.trans (hbw9 _ (Nat.le_refl _))
            have hs2 := hb2.size
            have hv9 : IsV w9 (fun b => w.heap.size ≤ b) (popX l) (.agg #[.int .i64 (popX l).kind, .int .i64 (popX l).num, .string (popX l).text, .slice Ax (popX l).items.length cx]) := ((HV5.out.keep ((Keeps.below hb6).trans (Keeps.below hf))).keep ((Keeps.weak fun b (hb : w2.heap.size ≤ b) => show w.heap.size < b by omega).trans hKf)).keep (Keeps.weak fun b hb => Nat.le_of_lt hb)
            have hr9 : IsR w9 (Old w S) l.dropLast 1 w6.heap.size := by
              have e1 : w9.heap[w6.heap.size]? = _ := (hot9 _ (Nat.ne_of_gt hg0)).trans HKG.out
              have hne : ∀ b, (S b ∧ b < w.heap.size) → b ≠ w.heap.size := fun b h => Nat.ne_of_lt h.2
              refine ⟨.inr (by omega), by simp [World.cell?, e1], by have := HI.out.2.2; simp; omega, .inr ⟨k, _, by simp only [World.cell?, e1]; rfl, HU.out.1.keep (fun b hb hs => ?_), HU.out.2.2, HU.out.2.1, (.inl rfl)⟩⟩
              rcases hs.1 with ⟨h1, _⟩ | h1
              · exact ⟨.inl h1, hot9 b (Nat.ne_of_lt h1.2)⟩
              · exact ⟨.inr (by omega), hot9 b (by omega)⟩
            have hll : l ≠ [] := List.length_pos_iff.1 HLP.out
            clear hw9 r0 r1 r2 r3 fr
            obtain ⟨e0, e1, e2, e3⟩ := block4 hk9
            clear hKf hot9 hbw9 hk9 HV5 x0 x1 x2 x3 n0 n1
            refine bodyPost_ret (v := .tuple #[.pointer (some ⟨w6.heap.size, 0, none⟩), .agg #[.int .i64 (popX l).kind, .int .i64 (popX l).num, .string (popX l).text, .slice Ax (popX l).items.length cx], .int .i64 0]) (by simp [results, Tryd.results21, go_sem, e0, e1, e2, e3]) rfl ⟨_, _, rfl, hv9, .inr ⟨hll, 1, _, rfl, hr9⟩, hB9⟩
end Go.Proofs.YtaeldfnihocljaaDoor
