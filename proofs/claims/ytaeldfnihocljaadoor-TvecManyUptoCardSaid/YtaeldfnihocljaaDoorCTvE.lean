/- Transients: what is left of one behind a change. -/
import Derived.Test.YtaeldfnihocljaaDoorCTvB
import Derived.Test.YtaeldfnihocljaaDoorCTvD

set_option linter.unusedVariables false
set_option linter.unusedSimpArgs false
namespace Go.Proofs.YtaeldfnihocljaaDoor
open Go.RowKit
attribute [local go_sem] lt_succ_of

/-- The transient x has changed: its items are l now. -/
def After (w : World) (R : Nat → Prop) (k : Nat) (x : Tr) (l : List V) (w' : World) : Prop :=
  But x.own w w' ∧ ∃ x', IsTr w' R k x' ∧ x'.t = x.t ∧ x'.op = x.op ∧ x'.all = l ∧ ∀ b, x'.own b → x.own b ∨ w.heap.size ≤ b
theorem After.same {w w' : World} {R : Nat → Prop} {k : Nat} {x : Tr} (hx : IsTr w R k x) (hb : Below w.heap.size w w') : After w R k x x.all w' :=
  ⟨But.of hb, x, hx.below hb, rfl, rfl, rfl, fun b h => .inl h⟩
theorem OwnL.strict {w : World} {base : Nat} {S : Nat → Prop} {l : List V} {v : Value} (h : OwnL w base S l v) : OwnL w base (fun b => S b ∧ some b ≠ v.ownBlock) l v := by
  obtain ⟨xs, h1, h2⟩ := h
  exact ⟨xs, h1, h2.keep fun b _ hs => ⟨⟨hs, hs.2⟩, rfl⟩⟩
theorem After.vec {w w2 : World} {R : Nat → Prop} {k : Nat} {x : Tr} (hx : IsTr w R k x) (hR : ∀ b, R b → b < w.heap.size) (hB : Below w.heap.size w w2) {S' : Nat → Prop} {l' : List V} {h' b' : Nat} (hv : IsR w2 S' l' h' b')
    (hS : ∀ b, S' b → (¬ x.own b ∧ ¬ R b) ∨ w.heap.size ≤ b) (hs : (l' ++ x.wt).length ≤ 65536) : After w R k x (l' ++ x.wt) (w2.setCell ⟨x.t, 1, none⟩ (.pointer (some ⟨b', 0, none⟩))) := by
  have hfree : ¬ (fun b => ¬ x.own b ∧ ¬ R b) x.t := fun h => h.1 (.inl rfl)
  have hx2 := hx.below hB
  refine ⟨(But.of hB).set (.inr (.inl rfl)) _, { x with m := l', h := h', b := b' }, ⟨block3set hx2.blk, ?_, ?_, hx2.len, hs, hx2.right, hx2.apart, hx2.free, hx2.high⟩, rfl, rfl, rfl, fun b h => .inl h⟩
  · refine hv.keep ((Keeps.weak fun b hb => ?_).trans (Keeps.set hfree _))
    rcases hS b hb with h | h
    · exact h
    · exact ⟨fun h3 => by have := hx.own_lt h3; omega, fun h3 => by have := hR b h3; omega⟩
  · exact hx2.wait.keep (Keeps.set hfree _) fun k hk => Below.heap_setCell _ _ _ _ (fun e => hx2.apart (hk.trans (congrArg some e)))
theorem After.wait {w w' : World} {R : Nat → Prop} {k : Nat} {x : Tr} (hx : IsTr w R k x) (hR : ∀ b, R b → b < w.heap.size) (hB : But x.own w w') {wt' : List V} {v' : Value}
    (blk : w'.heap[x.t]? = some (.cells #[.bool x.op, .pointer (some ⟨x.b, 0, none⟩), v'] 105 (0, 0))) (hw : OwnL w' 0 (fun b => ¬ x.own b ∧ ¬ R b) wt' v') (hl : wt'.length ≤ k) (hs : (x.m ++ wt').length ≤ 65536) (hr : ∀ y, y ∈ wt' → rightB y = true)
    (ho : ∀ b, v'.ownBlock = some b → x.vw.ownBlock = some b ∨ w.heap.size ≤ b) : After w R k x (x.m ++ wt') w' := by
  have hown : ∀ b, Tr.own { x with wt := wt', vw := v' } b → x.own b ∨ w.heap.size ≤ b := fun b hb => by
    rcases hb with hb | hb
    · exact .inl (.inl hb)
    · exact (ho b hb).imp .inr id
  refine ⟨hB, { x with wt := wt', vw := v' }, ⟨blk, ?_, ?_, hl, hs, hr, ?_, ?_, ?_⟩, rfl, rfl, rfl, hown⟩
  · refine hx.vec.keep fun b hb h1 => ⟨⟨fun h2 => ?_, h1.2⟩, hB.block b hb h1.1⟩
    rcases hown b h2 with h3 | h3
    · exact h1.1 h3
    · omega
  · refine hw.strict.keep (Keeps.weak fun b h1 => ⟨fun h2 => ?_, h1.1.2⟩) fun _ _ => rfl
    rcases h2 with h2 | h2
    · exact h1.1.1 (.inl h2)
    · exact h1.2 h2.symm
  · intro h1
    rcases ho _ h1 with h2 | h2
    · exact hx.apart h2
    · exact absurd (show x.t < w.heap.size from hx.own_lt (.inl rfl)) (Nat.not_lt.2 h2)
  · intro b h1 h2
    rcases hown b h1 with h3 | h3
    · exact hx.free b h3 h2
    · have := hR b h2; omega
  · intro b h1
    rcases hown b h1 with h3 | h3
    · exact hx.high b h3
    · have := hx.high x.t (.inl rfl); have := hx.own_lt (.inl rfl); omega
theorem setE_left {l : List V} (m : List V) {i : Int} (x : V) (h : i < l.length) : setE (l ++ m) i x = setE l i x := by
  unfold setE
  rw [List.length_append]
  by_cases hr : rightB x = true
  · rw [if_pos hr, if_pos hr]
    by_cases h0 : 0 ≤ i
    · rw [if_pos (by omega), if_pos (by omega)]
    · rw [if_neg (by omega), if_neg (by omega)]
  · rw [if_neg hr, if_neg hr]
theorem But.grown {M : Nat → Prop} {W w1 : World} {k : Option Nat} (hg : W.grownBy w1 k) (hm : ∀ b, k = some b → M b) : But M W w1 := by
  obtain ⟨h1, h2, h3, h4, h5⟩ := hg
  exact ⟨h1, h2, h3, h4, fun b hb hn => h5 b hb fun e => hn (hm b e.symm)⟩
theorem setE_zero {l : List V} {i : Int} {x : V} (h : setE l i x = 0) : 0 ≤ i ∧ i < l.length := by
  unfold setE at h
  by_cases hr : rightB x = true
  · rw [if_pos hr] at h
    by_cases h2 : 0 ≤ i ∧ i < l.length
    · exact h2
    · rw [if_neg h2] at h
      simp at h
  · rw [if_neg hr] at h
    simp at h
set_option maxRecDepth 100000 in
set_option maxHeartbeats 8000000 in
theorem tset_calls (w : World) (R : Nat → Prop) (k : Nat) (x : Tr) (i : Int) (y : V) (vy : Value) (hx : IsTr w R k x) (ho : x.op = true) (hR : ∀ b, R b → b < w.heap.size) (hy : IsV w (fun b => ¬ x.own b ∧ ¬ R b) y vy) (hT : Lib.Utf8Tabs 0 1 w) (hi0 : -9223372036854775808 ≤ i) (hi1 : i ≤ 9223372036854775807) :
    Calls Tryd.prog 41 #[.pointer (some ⟨x.t, 0, none⟩), .int .i64 i, vy] w fun e w' => e = .returned (.int .i64 (setE x.all i y)) ∧ After w R k x (if setE x.all i y = 0 then x.all.set i.toNat y else x.all) w' := by
  obtain ⟨hby, Ay, cy, rfl, hcy, hAy⟩ := hy.eq
  obtain ⟨w1, hw1, hB1, hsz, hb0⟩ := box0 w 31 (.int .i64 y.kind) (.int .i64 y.num) (.string y.text) (.slice Ay y.items.length cy)
  obtain ⟨e0, e1, e2, e3⟩ := block4 hb0
  have hx1 := hx.below hB1
  obtain ⟨c0, c1, c2, hl, hfr⟩ := hx1.cells
  obtain ⟨A, cap, hv, hcap⟩ := hx1.form
  rw [ho] at c0
  rw [hv] at c2
  have hsm := hx1.small
  have hall : x.all.length = x.m.length + x.wt.length := List.length_append
  have hsm1 : x.m.length ≤ 65536 := by omega
  have HX0 := Lib.hid hx
  have HR := Lib.hid hR
  have HX := Lib.hid hx1
  have HV := Lib.hid hv
  have HB0 := Lib.hid hb0
  have hs1 := hB1.size
  have hS := sealed_calls w1 R k x hx1
  rw [ho] at hS
  have HS := Lib.hid hS
  have hY1 : IsV w1 (fun b => ¬ x.own b ∧ ¬ R b) y _ := hy.below hB1
  have HY := Lib.hid hY1
  have HCK := Lib.hid (check_calls y _ w1 _ hY1 (tabs_below hT hB1))
  have HL := Lib.hid (fun w2 (hb2 : Below w1.heap.size w1 w2) => len_calls x.m x.h x.b w2 _ (hx1.vec.below hb2))
  have HN := Lib.hid (fun w2 (hb2 : Below w1.heap.size w1 w2) => vset_calls x.m x.h x.b i y _ w2 _ (hx1.vec.below hb2) (hY1.below hb2) (tabs_below (tabs_below hT hB1) hb2) hi0 hi1)
  have HZ := Lib.hid (fun w2 (hb2 : Below w1.heap.size w1 w2) => size_calls w2 R k x (hx1.below hb2))
  clear hx hx1 ho hv hb0 hS hY1 hAy hT hy
  by_cases hc : rightB y = true
  · rw [if_pos hc] at HCK
    by_cases hin : i < (x.m.length : Int)
    · have hn : setE x.all i y = setE x.m i y := setE_left _ _ hin
      rw [hn]
      have h1 : decide ((x.m.length : Int) ≤ i) = false := by simp; omega
      clear hsm hall hn
      have HIN := Lib.hid hin
      clear hin
      by_cases hz : setE x.m i y = 0
      · rw [hz] at HN ⊢
        rw [if_pos rfl]
        have HNZ := Lib.hid hz
        clear hz
        go_enter Tryd.func41, Tryd.ntmps41
        go_wp2_with (first | (go_at_call 59; refine HS.out.mono ?_; rintro e w2 ⟨rfl, rfl⟩) | (go_at_call 51; refine HCK.out.mono ?_; rintro e w2 ⟨rfl, hb2⟩; have d1 := cellB hb2 c1) | (go_at_call 24; refine (HL.out _ hb2).mono ?_; rintro e w3 ⟨rfl, hb3⟩; have hb4 := below_then hb2 hb2.size hb3; have g1 := cellB hb4 c1; obtain ⟨q0, q1, q2, q3⟩ := block4 (blockB hb4 HB0.out)))
        have HN2 := Lib.hid (HN.out _ hb4.drew)
        go_region_held3 (fun w' => w'.cell? ⟨x.t, 1, none⟩ = some (.pointer (some ⟨x.b, 0, none⟩)) ∧ w'.cell? ⟨w.heap.size, 0, none⟩ = some (.int .i64 y.kind) ∧ w'.cell? ⟨w.heap.size, 1, none⟩ = some (.int .i64 y.num) ∧ w'.cell? ⟨w.heap.size, 2, none⟩ = some (.string y.text) ∧ w'.cell? ⟨w.heap.size, 3, none⟩ = some (.slice Ay y.items.length cy))
          (first | go_keep | exact ⟨g6, z0, z1, z2, z3⟩)
          ((go_at_call 25; refine HN2.out.mono ?_; rintro e w5 ⟨p, rfl, hp, hb5⟩; obtain ⟨b', rfl, hv5⟩ := (hp.resolve_left (fun h => h.1 rfl)).2; have hb6 := below_then hb4 hb4.size (below_undrew hb5); have g6 := cellB hb6 c1; obtain ⟨z0, z1, z2, z3⟩ := block4 (blockB hb6 HB0.out); have hf6 := free4 (blockB hb6 HX.out.blk); have hl6 := World.block_lt_of_cell? w5 _ g6; have HV5 := Lib.hid hv5; clear hv5 hp))
        go_wp2_with fail
        go_ret
        have h0 := setE_zero HNZ.out
        have he : x.all.set i.toNat y = x.m.set i.toNat y ++ x.wt := by
          unfold Tr.all
          rw [List.set_append, if_pos (by have := HIN.out; omega)]
        rw [he]
        refine ⟨rfl, After.vec HX0.out HR.out (below_then hB1 hB1.size hb6) HV5.out (fun b hb => ?_) ?_⟩
        · rcases hb with hb | hb
          · exact .inl hb.1
          · have h1 := hb4.size
            have h2 : w3.drew.heap.size = w3.heap.size := rfl
            exact .inr (by omega)
        · rw [← he, List.length_set]
          exact HX.out.small
      · rw [if_neg hz]
        obtain ⟨E, hE⟩ : ∃ E, setE x.m i y = E := ⟨_, rfl⟩
        have hE0 : (E == 0) = false := by rw [← hE]; simpa using hz
        rw [hE] at HN hz ⊢
        clear hE
        have HNZ := Lib.hid hz
        clear hz
        go_enter Tryd.func41, Tryd.ntmps41
        go_wp2_with (first | (go_at_call 59; refine HS.out.mono ?_; rintro e w2 ⟨rfl, rfl⟩) | (go_at_call 51; refine HCK.out.mono ?_; rintro e w2 ⟨rfl, hb2⟩; have d1 := cellB hb2 c1) | (go_at_call 24; refine (HL.out _ hb2).mono ?_; rintro e w3 ⟨rfl, hb3⟩; have hb4 := below_then hb2 hb2.size hb3; have g1 := cellB hb4 c1; obtain ⟨q0, q1, q2, q3⟩ := block4 (blockB hb4 HB0.out)))
        have HN2 := Lib.hid (HN.out _ hb4.drew)
        go_region_held3 (fun w' => w'.cell? ⟨x.t, 1, none⟩ = some (.pointer (some ⟨x.b, 0, none⟩)) ∧ w'.cell? ⟨w.heap.size, 0, none⟩ = some (.int .i64 y.kind) ∧ w'.cell? ⟨w.heap.size, 1, none⟩ = some (.int .i64 y.num) ∧ w'.cell? ⟨w.heap.size, 2, none⟩ = some (.string y.text) ∧ w'.cell? ⟨w.heap.size, 3, none⟩ = some (.slice Ay y.items.length cy))
          (first | go_keep | exact ⟨g6, z0, z1, z2, z3⟩)
          ((go_at_call 25; refine HN2.out.mono ?_; rintro e w5 ⟨p, rfl, hp, hb5⟩; obtain rfl := (hp.resolve_right (fun h => HNZ.out h.1)).2; have hb6 := below_then hb4 hb4.size (below_undrew hb5); have g6 := cellB hb6 c1; obtain ⟨z0, z1, z2, z3⟩ := block4 (blockB hb6 HB0.out)))
        go_wp2_with fail
        go_ret
        exact ⟨rfl, After.same HX0.out (below_then hB1 hB1.size hb6)⟩
    · obtain ⟨j, rfl⟩ : ∃ j : Nat, i = (j : Int) := ⟨i.toNat, by omega⟩
      have h1 : decide ((x.m.length : Int) ≤ (j : Int)) = true := by simp; omega
      have hin2 : x.m.length ≤ j := by omega
      have i1 : IntKind.i64.wrap ((j : Int) - (x.m.length : Int)) = ((j - x.m.length : Nat) : Int) := by rw [IntWalk.i64_in _ (by omega)]; omega
      clear hin
      by_cases hout : j < x.all.length
      · have hj : j - x.m.length < x.wt.length := by omega
        rw [setE_in hc (by omega), if_pos rfl]
        have h2 : decide (j < x.all.length) = true := by simp; omega
        have he : x.all.set ((j : Int)).toNat y = x.m ++ x.wt.set (j - x.m.length) y := by
          unfold Tr.all
          simp only [Int.toNat_natCast]
          rw [List.set_append, if_neg (by omega)]
        rw [he]
        obtain ⟨J, hJ⟩ : ∃ J, j - x.m.length = J := ⟨_, rfl⟩
        rw [hJ] at hj i1 ⊢
        have hj1 : ¬ (J : Int) < 0 := by omega
        have hj2 : (J : Int) < (x.wt.length : Int) := by omega
        have HO := Lib.hid (fun w2 (hb2 : Below w1.heap.size w1 w2) => ownt_calls _ _ w2 _ (HY.out.below hb2))
        obtain ⟨n, hnn⟩ : ∃ n, x.all.length = n := ⟨_, rfl⟩
        rw [hnn] at h2 HZ
        have HJ := Lib.hid hj
        have HRY := Lib.hid hc
        clear hsm hall hout hsm1 hj hnn he hc
        go_enter Tryd.func41, Tryd.ntmps41
        go_wp2_with (first | (go_at_call 59; refine HS.out.mono ?_; rintro e w2 ⟨rfl, rfl⟩) | (go_at_call 51; refine HCK.out.mono ?_; rintro e w2 ⟨rfl, hb2⟩; have d1 := cellB hb2 c1) | (go_at_call 24; refine (HL.out _ hb2).mono ?_; rintro e w3 ⟨rfl, hb3⟩; have hb4 := below_then hb2 hb2.size hb3) | (go_at_call 61; refine (HZ.out _ hb4).mono ?_; rintro e w5 ⟨rfl, hb5⟩; have hb6 := below_then hb4 hb4.size hb5; have d2 := cellB hb6 c2; obtain ⟨q0, q1, q2, q3⟩ := block4 (blockB hb6 HB0.out)))
        have HO2 := Lib.hid (HO.out _ hb6.drew)
        go_region_with (go_at_call 62; refine HO2.out.mono ?_; rintro e w7 ⟨v, rfl, hv, hb7⟩; have hb8 := below_then hb6 hb6.size (below_undrew hb7); have hx7 := HX.out.below hb8; obtain ⟨hbv, Av, cv, rfl, hcv, hAv⟩ := hv.eq; have hs6 := hb6.size; have hsd : w5.drew.heap.size = w5.heap.size := rfl; obtain ⟨g, cap', hvw, hc', _, hgl, ⟨p0, p1, p2, p3, f0, f1, f2, f3⟩, hff, hO7⟩ := hx7.wait.store HJ.out (y := y) ((VC.mk hbv hcv hAv).keep (Keeps.weak fun b (hb : w5.drew.heap.size ≤ b) => ⟨⟨fun h => by have := HX.out.own_lt h; omega, fun h => by have := HR.out b h; omega⟩, fun h => by have := HX.out.own_lt (.inr h.symm); omega⟩)); have e1' := HV.out.symm.trans hvw; simp only [Value.slice.injEq, true_and] at e1'; obtain ⟨rfl, rfl⟩ := e1'; have hpl := plus0 g; have d7 := cellB hb8 c2; obtain ⟨z0, z1, z2, z3⟩ := block4 (blockB hb8 HB0.out); have HX7 := Lib.hid hx7; have HO7 := Lib.hid hO7; clear hx7 hO7 hv hAv)
        all_goals go_wp2_with fail
        all_goals go_ret
        all_goals
          have hog : x.vw.ownBlock = some g := by rw [hvw]; rfl
          have hne : x.t ≠ g := fun e => HX0.out.apart (by rw [hog, e])
          refine ⟨rfl, After.wait HX0.out HR.out (((((But.of (below_then hB1 hB1.size hb8)).set ?_ _).set ?_ _).set ?_ _).set ?_ _) ?_ HO7.out (by rw [List.length_set]; exact HX0.out.len) (by have := HX0.out.small; unfold Tr.all at this; rw [List.length_append] at this; rw [List.length_append, List.length_set]; exact this) (fun z hz => ?_) (fun b hb => .inl hb)⟩
          · exact .inr (.inr hog)
          · exact .inr (.inr hog)
          · exact .inr (.inr hog)
          · exact .inr (.inr hog)
          · rw [Below.heap_setCell _ _ _ _ hne, Below.heap_setCell _ _ _ _ hne, Below.heap_setCell _ _ _ _ hne, Below.heap_setCell _ _ _ _ hne]
            exact HX7.out.blk
          · rcases List.mem_or_eq_of_mem_set hz with h | h
            · exact HX0.out.right z h
            · rw [h]; exact HRY.out
      · rw [setE_out hc (by omega), if_neg (by decide)]
        rw [setE_out hc (by omega)] at HN
        have h2 : decide (j < x.all.length) = false := by simp; omega
        obtain ⟨n, hnn⟩ : ∃ n, x.all.length = n := ⟨_, rfl⟩
        rw [hnn] at h2 HZ
        clear hsm hall hout hsm1 hnn hc
        go_enter Tryd.func41, Tryd.ntmps41
        go_wp2_with (first | (go_at_call 59; refine HS.out.mono ?_; rintro e w2 ⟨rfl, rfl⟩) | (go_at_call 51; refine HCK.out.mono ?_; rintro e w2 ⟨rfl, hb2⟩; have d1 := cellB hb2 c1) | (go_at_call 24; refine (HL.out _ hb2).mono ?_; rintro e w3 ⟨rfl, hb3⟩; have hb4 := below_then hb2 hb2.size hb3) | (go_at_call 61; refine (HZ.out _ hb4).mono ?_; rintro e w5 ⟨rfl, hb5⟩; have hb6 := below_then hb4 hb4.size hb5; have d1 := cellB hb6 c1; obtain ⟨q0, q1, q2, q3⟩ := block4 (blockB hb6 HB0.out)))
        have HN2 := Lib.hid (HN.out _ hb6.drew)
        go_region_held3 (fun w' => w'.cell? ⟨x.t, 1, none⟩ = some (.pointer (some ⟨x.b, 0, none⟩)) ∧ w'.cell? ⟨w.heap.size, 0, none⟩ = some (.int .i64 y.kind) ∧ w'.cell? ⟨w.heap.size, 1, none⟩ = some (.int .i64 y.num) ∧ w'.cell? ⟨w.heap.size, 2, none⟩ = some (.string y.text) ∧ w'.cell? ⟨w.heap.size, 3, none⟩ = some (.slice Ay y.items.length cy))
          (first | go_keep | exact ⟨g6, z0, z1, z2, z3⟩)
          ((go_at_call 25; refine HN2.out.mono ?_; rintro e w7 ⟨p, rfl, hp, hb7⟩; obtain rfl := (hp.resolve_right (fun h => absurd h.1 (by decide))).2; have hb8 := below_then hb6 hb6.size (below_undrew hb7); have g6 := cellB hb8 c1; obtain ⟨z0, z1, z2, z3⟩ := block4 (blockB hb8 HB0.out)))
        go_wp2_with fail
        go_ret
        exact ⟨rfl, After.same HX0.out (below_then hB1 hB1.size hb8)⟩
  · rw [if_neg hc] at HCK
    rw [setE_bad hc, if_neg (by decide)]
    clear hc
    go_enter Tryd.func41, Tryd.ntmps41
    go_wp2_with (first | (go_at_call 59; refine HS.out.mono ?_; rintro e w2 ⟨rfl, rfl⟩) | (go_at_call 51; refine HCK.out.mono ?_; rintro e w2 ⟨rfl, hb2⟩))
    go_ret
    exact ⟨rfl, After.same HX0.out (below_then hB1 hB1.size hb2)⟩
end Go.Proofs.YtaeldfnihocljaaDoor
