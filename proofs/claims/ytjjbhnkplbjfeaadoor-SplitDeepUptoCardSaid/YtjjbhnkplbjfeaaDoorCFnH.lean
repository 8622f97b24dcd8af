/- A part put at a tree's back; a tree of few parts. -/
import Derived.Test.YtjjbhnkplbjfeaaDoorCFnG

set_option linter.unusedVariables false
set_option linter.unusedSimpArgs false
namespace Go.Proofs.YtjjbhnkplbjfeaaDoor
open Go.RowKit
attribute [local go_sem] lt_succ_of methItem methNode asItem asNode isNode noNode fieldNode fieldItem notNil

set_option maxRecDepth 100000 in
set_option maxHeartbeats 8000000 in
theorem back_calls (t : Ft) : ∀ (x : Pt) (k : Nat) (p : Option Addr) (u : Value) (w : World) (S : Nat → Prop), IsF w S t p → IsP w S x u → Ft.Ok k t → Pt.Lev k x → t.items.length + x.items.length ≤ 4294967296 →
    Calls Tryd.prog 64 #[.pointer p, u] w fun e w' => MadeF w S (t.back x) e w' := by
  induction t with
  | nil =>
    intro x k p u w S ht hx hok hlev hm
    obtain rfl := ht.nil_eq
    have HS := Lib.hid (single_calls x u w S hx (by simpa [Ft.items] using hm))
    clear ht hx hok hlev hm
    go_enter Tryd.func64, Tryd.ntmps64
    go_wp2_with (go_at_call 93; refine HS.out.mono ?_; rintro e w2 ⟨p, rfl, hp, hb⟩; have HP := Lib.hid hp; clear hp)
    go_ret
    exact ⟨p, rfl, HP.out, hb⟩
  | mk l m r ih =>
    intro x k p u w S ht hx hok hlev hm
    obtain ⟨b, vl, vr, q, rfl, hs, c0, c1, c2, c3, hl, hr, hq⟩ := ht.eq
    obtain ⟨h1, h2, h3, h4, h5, h6, h7⟩ := hok
    have hbl := World.block_lt_of_cell? w _ c0
    have hmm : (Ft.items (.mk l m r)).length = (Pt.flat l).length + m.items.length + (Pt.flat r).length := by simp [Ft.items]; omega
    rw [hmm] at hm
    have hA := alone_calls l r m b w S ht
    by_cases hr0 : r.length = 0
    · obtain ⟨hl1, rfl⟩ := h7 hr0
      obtain rfl := List.eq_nil_of_length_eq_zero hr0
      simp only [List.length_nil, decide_true] at hA
      have HA := Lib.hid hA
      obtain ⟨tu, xu, rfl⟩ := hx.form
      obtain ⟨A, cA, rfl, hcA, hPA⟩ := hl.addr h3
      have HOF : Hid (Calls Tryd.prog 95 #[.slice (some A) l.length cA, .pointer none, .slice (some ⟨w.heap.size, 0, none⟩) 1 1] (w.alloc (.cells #[.iface tu xu] 115)) fun e w' => MadeF w S (Ft.mk l .nil [x]) e w') := Lib.hid (by
        have hb : Below w.heap.size w (w.alloc (.cells #[.iface tu xu] 115)) := alloc_of (Below.refl _ _) _
        refine (of_calls l [x] .nil _ _ none _ (Old w S) (hl.keep (keeps_old hb)) (slice_new (l := [x]) (Below.refl _ _) ⟨_, [], rfl, hx.keep (keeps_old (Below.refl _ _)), rfl⟩) rfl ?_ (by omega) (by simp)).mono fun e w' h => made_later hb h
        simp only [Ft.items, pflat_one, List.nil_append, List.length_append]
        omega)
      have HF : Hid ((Ft.mk l .nil []).back x = .mk l .nil [x]) := Lib.hid (by simp [Ft.back])
      clear hl1 ih ht hl hr hq hx hA h1 h2 h5 h6 h7 hm hmm hlev hr0 hPA
      go_enter Tryd.func64, Tryd.ntmps64
      go_wp2_with (first
        | (go_at_call 94; refine HA.out.mono ?_; rintro e w2 ⟨rfl, rfl⟩)
        | (go_at_call 95; refine HOF.out.mono ?_; rintro e w3 ⟨p, rfl, hp, hb⟩; have HP := Lib.hid hp; clear hp))
      go_ret
      rw [HF.out]
      exact ⟨p, rfl, HP.out, hb⟩
    · simp only [hr0, decide_false] at hA
      have HA := Lib.hid hA
      obtain ⟨tu, xu, rfl⟩ := hx.form
      obtain ⟨A, cA, rfl, hcA, hPA⟩ := hl.addr h3
      obtain ⟨B, cB, rfl, hcB, hPB⟩ := hr.addr (by omega)
      have HC := Lib.hid (And.intro c1 (And.intro c2 c3))
      by_cases hl4 : r.length < 4
      · have e1 : (r.length : Int) < 4 := by omega
        have HPL : Hid (∀ W vs, Below w.heap.size w W → IsPs W (Old w S) [x] vs → Calls Tryd.prog 96 #[.slice (some B) r.length cB, vs] W fun e w' => ∃ A5 c5, e = .returned (.slice A5 (r.length + 1) c5) ∧ IsPs w' (Old w S) (r ++ [x]) (.slice A5 (r.length + 1) c5) ∧ Below w.heap.size w w') := Lib.hid fun W vs hb hv => by
          refine (plus_calls r [x] _ _ _ (Old w S) (hr.keep (keeps_old hb)) hv (by omega) (by simp) (by simp; omega)).mono ?_
          rintro e w' ⟨v, rfl, hv, hb'⟩
          obtain ⟨A5, c5, rfl, hh⟩ := id hv
          have hll : (r ++ [x]).length = r.length + 1 := by simp
          rw [hll] at hv ⊢
          exact ⟨A5, c5, rfl, hv.keep (Keeps.weak (old_later hb)), below_then hb hb.size hb'⟩
        have HSN : Hid (IsPs (w.alloc (.cells #[.iface tu xu] 115)) (Old w S) [x] (.slice (some ⟨w.heap.size, 0, none⟩) 1 1)) := Lib.hid (slice_new (l := [x]) (Below.refl _ _) ⟨_, [], rfl, hx.keep (keeps_old (Below.refl _ _)), rfl⟩)
        have hmm : (Ft.items (.mk l m (r ++ [x]))).length ≤ 4294967296 := by simp only [Ft.items, pflat_append, pflat_one, List.length_append]; omega
        have HOF : Hid (∀ W v, Below w.heap.size w W → IsPs W (Old w S) (r ++ [x]) v → Calls Tryd.prog 95 #[.slice (some A) l.length cA, .pointer q, v] W fun e w' => MadeF w S (Ft.mk l m (r ++ [x])) e w') := Lib.hid fun W v hb hv =>
          (of_calls l (r ++ [x]) m _ _ q _ (Old w S) (hl.keep (keeps_old hb)) hv (hq.keep (keeps_old hb)) hmm (by omega) (by simp; omega)).mono fun e w' h => made_later hb h
        have HF : Hid ((Ft.mk l m r).back x = .mk l m (r ++ [x])) := Lib.hid (by simp only [Ft.back]; rw [if_neg hr0, if_pos hl4])
        clear ih ht hl hr hq hx hA h1 h2 h5 h6 h7 hm hmm hlev hr0 hPA hPB hl4 c0
        go_enter Tryd.func64, Tryd.ntmps64
        go_wp2_with (go_at_call 94; refine HA.out.mono ?_; rintro e w2 ⟨rfl, rfl⟩)
        go_region_held3 (fun w' => w'.cell? ⟨b, 1, none⟩ = some (.slice (some A) l.length cA) ∧ w'.cell? ⟨b, 2, none⟩ = some (.slice (some B) r.length cB) ∧ w'.cell? ⟨b, 3, none⟩ = some (.pointer q))
          (first | go_keep | exact cells3 (by first | assumption | exact alloc_of (by assumption) _) HC.out)
          (first
            | (go_at_call 96; refine (HPL.out _ _ (by first | exact drew_of (alloc_of (Below.refl _ _) _) | exact alloc_of (Below.refl _ _) _) (by first | exact HSN.out.keep Keeps.drew | exact HSN.out)).mono ?_; rintro e w5 ⟨A5, c5, rfl, hv5, hb5⟩; have HV5 := Lib.hid hv5; clear hv5)
            | (go_at_call 95; refine (HOF.out _ _ hb5 HV5.out).mono ?_; rintro e w3 ⟨p, rfl, hp, hb⟩; have HP := Lib.hid hp; clear hp))
        go_wp2_with fail
        go_ret
        rw [HF.out]
        exact ⟨p, rfl, HP.out, hb⟩
      · have hl4' : r.length = 4 := by omega
        obtain ⟨_, u0, hu0, hc0⟩ := hPB.at 3 (by omega)
        rw [Nat.zero_add, show B.add 3 = ⟨B.block, B.off + 3, none⟩ from rfl] at hc0
        obtain ⟨t0, x0, rfl⟩ := hu0.form
        have hcA4 : 4 ≤ cB := by omega
        have hcA5 : 3 ≤ cB := by omega
        have hcA6 : (3 : Int) ≤ (cB : Int) := by omega
        have hAl := World.block_lt_of_cell? w _ hc0
        have HCA := Lib.hid hc0
        have hPD := PC.take 3 hPB
        have hfl : (Pt.flat r).length = (Pt.flat (r.take 3)).length + (Pt.items (ptAt r 3)).length := by
          have e : r = r.take 3 ++ [ptAt r 3] := by rw [← ptAt_take (by omega), List.take_of_length_le (by omega)]
          conv => lhs; rw [e, pflat_append, pflat_one, List.length_append]
        have h3l : (r.take 3).length = 3 := by rw [List.length_take]; omega
        have hCS : ∀ W, Below w.heap.size w W → CsP W (Old w S) [ptAt r 3, x] [.iface t0 x0, .iface tu xu] := fun W hb => ⟨_, _, rfl, hu0.keep (keeps_old hb), _, _, rfl, hx.keep (keeps_old hb), rfl⟩
        have HCS := Lib.hid hCS
        have HJ : Hid (∀ W, Below w.heap.size w W → Calls Tryd.prog 97 #[.slice (some B) 3 cB] W fun e w' => ∃ v, e = .returned v ∧ IsP w' (Old w S) (.node (r.take 3)) (.iface 137 v) ∧ (∃ a b, v = .agg #[a, b]) ∧ Below w.heap.size w w' ∧ Below W.heap.size W w') := Lib.hid fun W hb => by
          have h9 : IsPs W (Old w S) (r.take 3) (.slice (some B) 3 cB) := by
            have := (IsPs.of (cap := cB) (by rw [h3l]; omega) hPD).keep (keeps_old hb)
            rwa [h3l] at this
          refine (joined_calls (r.take 3) _ W (Old w S) h9 (by omega) (by omega) (by omega)).mono ?_
          rintro e w' ⟨v, rfl, hv, hab, hb'⟩
          exact ⟨v, rfl, hv.keep (Keeps.weak (old_later hb)), hab, below_then hb hb.size hb', hb'⟩
        have hmn : m.items.length + (Pt.items (.node (r.take 3))).length ≤ 4294967296 := by rw [pnode_items]; omega
        have hlv : Pt.Lev (k + 1) (.node (r.take 3)) := ⟨h3l, fun p hp => h2 p (List.take_subset _ _ hp)⟩
        obtain ⟨o1, o2⟩ := back_ok (x := .node (r.take 3)) h6 hlv
        have HFR : Hid (∀ W v, Below w.heap.size w W → IsP W (Old w S) (.node (r.take 3)) (.iface 137 v) → Calls Tryd.prog 64 #[.pointer q, .iface 137 v] W fun e w' => (MadeF w S (m.back (.node (r.take 3))) e w') ∧ Below W.heap.size W w') := Lib.hid fun W v hb hv =>
          (ih (.node (r.take 3)) (k + 1) q _ W (Old w S) (hq.keep (keeps_old hb)) hv h6 hlv hmn).mono fun e w' h => ⟨made_later hb h, by obtain ⟨_, _, _, h⟩ := h; exact h⟩
        have HOF : Hid (∀ W p vs, Below w.heap.size w W → IsF W (Old w S) (m.back (.node (r.take 3))) p → IsPs W (Old w S) [ptAt r 3, x] vs → Calls Tryd.prog 95 #[.slice (some A) l.length cA, .pointer p, vs] W fun e w' => MadeF w S (Ft.mk l (m.back (.node (r.take 3))) [ptAt r 3, x]) e w') := Lib.hid fun W p vs hb hp hv =>
          (of_calls l [ptAt r 3, x] _ _ _ p _ (Old w S) (hl.keep (keeps_old hb)) hv hp (by
            simp only [Ft.items, o2, pnode_items, pflat_cons, pflat_nil, List.length_append, List.length_nil]
            omega) (by omega) (by simp)).mono fun e w' h => made_later hb h
        have HF : Hid ((Ft.mk l m r).back x = .mk l (m.back (.node (r.take 3))) [ptAt r 3, x]) := Lib.hid (by simp only [Ft.back]; rw [if_neg hr0, if_neg hl4])
        have e1 : ¬ ((r.length : Int) < 4) := by omega
        rw [hl4'] at c2 HC
        clear ih ht hl hr hq hx hA h1 h2 h5 h6 h7 hm hmm hlev hr0 hPA hPB hl4 c0 e1 hPD hfl hCS hmn hlv o1 o2 hu0 hcA h3 h4 hl4' h3l hcB
        go_enter Tryd.func64, Tryd.ntmps64
        go_wp2_with (go_at_call 94; refine HA.out.mono ?_; rintro e w2 ⟨rfl, rfl⟩)
        go_region_held3 (fun w' => w'.cell? ⟨b, 1, none⟩ = some (.slice (some A) l.length cA) ∧ w'.cell? ⟨b, 2, none⟩ = some (.slice (some B) 4 cB) ∧ w'.cell? ⟨b, 3, none⟩ = some (.pointer q) ∧ w'.cell? ⟨B.block, B.off + 3, none⟩ = some (.iface t0 x0))
          (first | go_keep | exact cells4' (by first | assumption | exact alloc_of (by assumption) _) HC.out HCA.out)
          (first
            | (go_at_call 97; refine (HJ.out _ (by first | assumption | exact drew_of (Below.refl _ _) | exact drew_of (alloc_of (Below.refl _ _) _))).mono ?_; rintro e w5 ⟨v5, rfl, hv5, ⟨a5, b5, rfl⟩, hb5, hr5⟩; have HV5 := Lib.hid hv5; clear hv5)
            | (go_at_call 64; refine (HFR.out _ _ (by first | assumption | exact alloc_of (by assumption) _) (by first | exact HV5.out | exact HV5.out.keep (Keeps.alloc _))).mono ?_; rintro e w6 ⟨⟨p6, rfl, hp6, hb6⟩, hr6⟩; have HP6 := Lib.hid hp6; clear hp6)
            | (go_at_call 95; refine (HOF.out _ _ _ hb6 HP6.out (((slice_new (l := [ptAt r 3, x]) (Below.refl _ _) (HCS.out _ (Below.refl _ _))).below (below_undrew hr5)).below hr6)).mono ?_; rintro e w7 ⟨p7, rfl, hp7, hb7⟩; have HP7 := Lib.hid hp7; clear hp7)
            | (go_at_call 95; refine (HOF.out _ _ _ hb6 HP6.out ((slice_new (l := [ptAt r 3, x]) hb5 (HCS.out _ hb5)).below hr6)).mono ?_; rintro e w7 ⟨p7, rfl, hp7, hb7⟩; have HP7 := Lib.hid hp7; clear hp7)
            | (go_at_call 95; refine (HOF.out _ _ _ (alloc_of hb6 _) (HP6.out.keep (Keeps.alloc _)) (slice_new (l := [ptAt r 3, x]) hb6 (HCS.out _ hb6))).mono ?_; rintro e w7 ⟨p7, rfl, hp7, hb7⟩; have HP7 := Lib.hid hp7; clear hp7))
        all_goals go_wp2_with fail
        all_goals go_ret
        all_goals
          rw [HF.out]
          exact ⟨p7, rfl, HP7.out, hb7⟩
theorem foldl_length : ∀ {l : List Pt} {t : Ft} {k : Nat}, Ft.Ok k t → (∀ p, p ∈ l → Pt.Lev k p) → (l.foldl Ft.back t).items.length = t.items.length + (Pt.flat l).length := fun h hl => by
  rw [(foldl_ok h hl).2, List.length_append]
set_option maxRecDepth 100000 in
set_option maxHeartbeats 4000000 in
theorem few_calls (ks : List Pt) (k : Nat) (vl : Value) (w : World) (S : Nat → Prop) (h : IsPs w S ks vl) (h0 : 0 < ks.length) (hlev : ∀ p, p ∈ ks → Pt.Lev k p) (hm : (Pt.flat ks).length ≤ 4294967296) (hk : ks.length ≤ 65536) :
    Calls Tryd.prog 105 #[vl] w fun e w' => MadeF w S (Ft.few ks) e w' := by
  obtain ⟨A, cap, rfl, hc, hA⟩ := h.addr h0
  have HA := Lib.hid hA
  have HM := Lib.hid hm
  have HL := Lib.hid hlev
  clear h hA hm hlev h0
  go_enter Tryd.func105, Tryd.ntmps105
  go_wp2_with fail
  go_loopw [3, 8] (fun vn vi wr => ∃ (i : Nat) (q : Option Addr), vi = .int .i64 i ∧ vn = .pointer q ∧ i ≤ ks.length ∧ Hid (IsF wr (Old w S) ((ks.take i).foldl Ft.back .nil) q) ∧ Below w.heap.size w wr) (fun _ v _ => ks.length - (intOf v).toNat)
  case atStart => exact ⟨0, none, rfl, rfl, by omega, Lib.hid rfl, Below.refl _ _⟩
  case round =>
    obtain ⟨i, q, rfl, rfl, hi, hq, hf⟩ := hrel
    by_cases hlt : i < ks.length
    · obtain ⟨hsA, u, hu, hcu⟩ := (HA.out.keep (keeps_old hf)).at i hlt
      rw [Nat.zero_add] at hcu
      have hAl := World.block_lt_of_cell? wr _ hcu
      have hok := foldl_ok (l := ks.take i) (t := .nil) (k := k) trivial (fun p hp => HL.out p (List.take_subset _ _ hp))
      have hup := aheadP_succ hlt
      have hle := aheadP_le ks (i + 1)
      have HB := Lib.hid (back_calls ((ks.take i).foldl Ft.back .nil) (ptAt ks i) k q u wr (Old w S) hq.out hu hok.1 (HL.out _ (ptAt_mem hlt)) (by rw [hok.2]; have := HM.out; unfold aheadP at hup hle; simp only [Ft.items, List.nil_append]; omega))
      have HT : Hid ((ks.take (i + 1)).foldl Ft.back .nil = ((ks.take i).foldl Ft.back .nil).back (ptAt ks i)) := Lib.hid (by rw [ptAt_take hlt, List.foldl_append]; rfl)
      clear hok hup hle hu
      go_wp2_with (go_at_call 64; refine HB.out.mono ?_; rintro e w2 ⟨p2, rfl, hp2, hb2⟩; have HP2 := Lib.hid (hp2.keep (Keeps.weak (old_later hf))); have hf2 := below_then hf hf.size hb2; clear hp2)
      go_roundw
      case rel => exact ⟨i + 1, p2, by go_num, rfl, by omega, by rw [HT.out]; exact HP2, hf2⟩
      case measure => simp [intOf]; omega
    · obtain rfl : i = ks.length := by omega
      rw [List.take_length] at hq
      go_wp2_with fail
      go_ret
      exact ⟨q, rfl, hq.out, hf⟩
end Go.Proofs.YtjjbhnkplbjfeaaDoor
