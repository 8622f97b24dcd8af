/- What a nil vector answers. -/
import Derived.Test.YtaeldfnihocljaaDoorCRefA

set_option linter.unusedVariables false
set_option linter.unusedSimpArgs false
namespace Go.Proofs.YtaeldfnihocljaaDoor
open Go.RowKit Go.Shelf
attribute [local go_sem] Oper.semAt_some lt_succ_of

theorem len_nil_same (w : World) : Calls Tryd.prog 24 #[.pointer none] w fun e w' => e = .returned (.int .i64 0) ∧ w' = w := by
  go_enter Tryd.func24, Tryd.ntmps24
  go_wp2_with fail
  go_ret
  exact ⟨rfl, rfl⟩
theorem from_each_nil (f : Int) (X Y : Nat) (S : Nat → Prop) (w : World) (hX : w.heap[X]? = some (.cells #[.pointer none] 23 (0, 0))) (hY : w.heap[Y]? = some (.cells #[.int .i64 f] 3 (0, 0))) : Each 65 #[.pointer (some ⟨X, 0, none⟩), .pointer (some ⟨Y, 0, none⟩)] S w.heap.size [] w := by
  intro ll J Jx W hW hJ hJx hR h0 n
  refine callsIn_wide.2 ?_
  have hX1 := blockB hW hX
  have hY1 := blockB hW hY
  have cX : W.cell? ⟨X, 0, none⟩ = some (.pointer none) := by simp [World.cell?, hX1]
  have cY : W.cell? ⟨Y, 0, none⟩ = some (.int .i64 f) := by simp [World.cell?, hY1]
  have hXl : X < W.heap.size := (Array.getElem?_eq_some_iff.1 hX1).1
  have hYl : Y < W.heap.size := (Array.getElem?_eq_some_iff.1 hY1).1
  have HJ := Lib.hid hJ
  have H0 := Lib.hid h0
  clear hJ hJx hR h0 hX1 hY1 hX hY
  simp only [List.append_toArray, List.cons_append, List.nil_append]
  go_enter Tryd.func65, Tryd.ntmps65
  go_wp2_with fail
  go_quiet ((go_at_call 24; exact Calls.quiet_of_same (len_nil_same _)))
  go_wp2_with fail
  go_end0
  exact ⟨⟨_, rfl⟩, .inl (HJ.out _ _ _ H0.out (below_drewN _ _))⟩
theorem pop_nil_calls (w : World) : Calls Tryd.prog 21 #[.pointer none] w fun e w' => ∃ vx, e = .returned (.tuple #[.pointer none, vx, .int .i64 6]) ∧ IsV w' (fun b => w.heap.size ≤ b) V.zero vx ∧ Below w.heap.size w w' := by
  obtain ⟨w1, hw1, hB1, hsz, hb0⟩ := box0 w 31 (.int .i64 0) (.int .i64 0) (.string ⟨#[]⟩) (.slice none 0 0)
  obtain ⟨e0, e1, e2, e3⟩ := block4 hb0
  have fz := free4 hb0
  clear hb0
  go_enter Tryd.func21, Tryd.ntmps21
  go_wp2_with (first | (go_at_call 24; refine (len_nil_same _).mono ?_; rintro e w2 ⟨rfl, rfl⟩))
  refine bodyPost_ret (v := .tuple #[.pointer none, .agg #[.int .i64 0, .int .i64 0, .string ⟨#[]⟩, .slice none 0 0], .int .i64 6]) (by simp [results, Tryd.results21, go_sem, e0, e1, e2, e3]) rfl ⟨_, rfl, zero_is _ _, ?_⟩
  repeat refine Below.setCell ?_ (by simp) _
  exact hB1
set_option maxRecDepth 100000 in
set_option maxHeartbeats 8000000 in
theorem items_nil_calls (w : World) :
    Calls Tryd.prog 32 #[.pointer none] w fun e w' => ∃ v, e = .returned v ∧ IsS w' (fun b => w.heap.size ≤ b) [] v ∧ Below w.heap.size w w' := by
  obtain ⟨l, hl⟩ : ∃ l : List V, l = [] := ⟨_, rfl⟩
  rw [← hl]
  refine (callsIn_wide (n := 9)).1 ?_
  have hl65 : l.length ≤ 65536 := by rw [hl]; simp
  have HLN := Lib.hid hl
  clear hl
  refine callsIn_of_wp_marks Tryd.func32 rfl trivial ?_ rfl
  simp only [Tryd.ntmps32, List.size_toArray, List.length_cons, List.length_nil, Nat.reduceAdd, Nat.reduceSub, Array.replicate_succ, Array.replicate_zero, List.push_toArray, List.append_toArray, List.nil_append, List.cons_append]
  obtain ⟨w1, hw1, hB1, hsz, hb0⟩ : ∃ w1, w.alloc (.cells #[.slice none 0 0] 22) = w1 ∧ Below w.heap.size w w1 ∧ w.heap.size + 1 = w1.heap.size ∧ w1.heap[w.heap.size]? = some (.cells #[.slice none 0 0] 22 (0, 0)) :=
    ⟨_, rfl, (Below.refl _ _).alloc (Nat.le_refl _) _, by simp, heap_alloc_new w _⟩
  have HC := Lib.hid (callsIn_wide (n := 8).2 (from_calls none 0 w1))
  gi_wp2_with (first | (refine ⟨trivial, ?_⟩; gi_at_call 50; refine HC.out.mono ?_; rintro e w2 ⟨rfl, hX, hY, hb2⟩; have HX := Lib.hid hX; have HY := Lib.hid hY; clear hX hY))
  have hsz2 := hb2.size
  have hB2 : Below w.heap.size w w2 := below_then hB1 hB1.size hb2
  have hb02 := blockB hb2 hb0
  refine range_law 9 (gf := 65) (lb := #[.pointer (some ⟨w1.heap.size, 0, none⟩), .pointer (some ⟨w1.heap.size + 1, 0, none⟩)]) rfl enters_from (G := gotL 0 0 l) (S := fun b => True ∧ b < w.heap.size)
    (by rw [HLN.out]; exact from_each_nil 0 _ _ _ w2 HX.out HY.out) rfl
    (fun pre W => (∃ v, W.heap[w.heap.size]? = some (.cells #[v] 22 (0, 0)) ∧ OwnL W (w2.heap.size + 2) (fun b => w2.heap.size + 2 ≤ b) (pre.map Prod.snd) v) ∧ Below w.heap.size w W ∧ w2.heap.size ≤ W.heap.size)
    (fun _ _ _ => False) ?hI (fun _ _ _ _ h _ => h) ⟨⟨_, hb02, OwnL.nil _ _ _⟩, hB2, Nat.le_refl _⟩ ?round ?done (fun _ _ _ _ _ _ h _ => h.elim)
  case hI =>
    rintro s W W' ⟨⟨v, hv, hown⟩, hbel, hsz3⟩ hg
    refine ⟨⟨v, (hg.block _ (Array.getElem?_eq_some_iff.1 hv).1 (fun e => by injection e with e; omega)).trans hv, hown.keep (Keeps.grown hg fun k e (h : w2.heap.size + 2 ≤ k) => by injection e with e; omega) fun k hk => hg.block k (hown.own_lt k hk).2 (fun e => by injection e with e; have := (hown.own_lt k hk).1; omega)⟩, hbel.grown hg hbel.size (fun k hk => by injection hk with hk; omega), Nat.le_trans hsz3 hg.size⟩
  case round =>
    rintro l0 pre i x v W0 W m ⟨⟨v0, hv0, hown⟩, hbel, hsz0⟩ hW hszW hv hpre
    obtain ⟨hbd, A, cap, rfl, hcap, hLA⟩ := hv.eq
    gi_wp2
    refine ⟨(Below.refl _ _).alloc (Nat.le_refl _) _, ?_⟩
    rintro Wb hgb ⟨⟨v, hvb, hob⟩, hbelb, hszb⟩
    have hsW := hW.size
    have hne : W.heap.size ≠ w2.heap.size + 1 := by omega
    have hbx : Wb.heap[W.heap.size]? = some (.cells #[.int .i64 x.kind, .int .i64 x.num, .string x.text, .slice A x.items.length cap] 31 (0, 0)) := (hgb.block W.heap.size (by simp) (fun e => hne (by injection e))).trans (heap_alloc_new W _)
    have hvv : v = v0 := by
      have h1 := (hgb.block w.heap.size (by simp; omega) (fun e => by injection e with e; omega)).symm.trans hvb
      rw [Below.heap_alloc _ _ _ (by omega), hW.block w.heap.size (by omega), hv0] at h1
      injection h1 with h1
      injection h1 with h1
      injection h1 with h1
      injection h1 with h1
      exact h1.symm
    subst hvv
    have hown2 := hown.own_lt
    obtain ⟨A2, c2, rfl, hc2⟩ := hob.form
    have hKy : Keeps W (fun b => W0.heap.size ≤ b) Wb (fun b => w2.heap.size + 2 ≤ b ∧ some b ≠ (Value.slice A2 (pre.map Prod.snd).length c2).ownBlock) := by
      refine ((Keeps.alloc _).trans (Keeps.grown hgb fun k e (h : W0.heap.size ≤ k) => by injection e with e; omega)).trans (Keeps.weak fun b (h : W0.heap.size ≤ b) => ⟨by omega, fun e => by have := (hown2 b e.symm).2; omega⟩)
    have hy := VC.mk hbd hcap (hLA.keep hKy)
    have hlen : (pre.map Prod.snd).length ≤ 4294967296 := by
      have h1 := hpre.length_le
      have h2 := gotL_length 0 l 0
      rw [List.length_append] at h1
      rw [List.length_map]
      omega
    have hwb := hgb.size
    simp only [World.size_alloc] at hwb
    gi_wp2
    refine round_items l0 m Wb (w2.heap.size + 2) (fun b => w2.heap.size + 2 ≤ b) w.heap.size W.heap.size (pre.map Prod.snd) A2 c2 x _ _ _ _ _ _ _ _ hvb hbx rfl ⟨_, _, _, rfl⟩ hob (by omega) hlen (by omega) (fun e => by have := (hown2 _ e).1; omega) (fun e => by have := (hown2 _ e).2; omega) hy ?_
    intro a' v1 W' h1 h2 h3
    refine ⟨⟨h3.size, fun k o hk ho hoc => ?_⟩, ⟨h3.size, fun k hk hs => ?_⟩, ⟨⟨v1, h1, by rw [List.map_append]; exact h2⟩, ⟨h3.os.trans hbelb.os, h3.tape.trans hbelb.tape, h3.output.trans hbelb.output, Nat.le_trans hbelb.size h3.size, fun k hk => ?_⟩, Nat.le_trans hszb h3.size⟩⟩
    · have hkl := (Array.getElem?_eq_some_iff.1 ho).1
      refine (h3.block k hkl (fun e => ?_) (fun e => ?_)).trans ho
      · omega
      · obtain ⟨xs, ⟨_, hh⟩, _⟩ := hob
        rcases hh with ⟨hh, _⟩ | ⟨g, cap', cur, hh, hg1, hg2, _⟩
        · rw [hh] at e; cases e
        · rw [hh] at e
          injection e with e
          subst e
          rw [hg2] at ho
          cases ho
          cases hoc
    · exact h3.block k (by omega) (by have := hs.2; omega) (fun e => by have := (hown2 k e.symm).1; omega)
    · rw [h3.block k (by omega) (by omega) (fun e => by have := (hown2 k e.symm).1; omega)]
      exact hbelb.block k hk
  case done =>
    rintro D W hD ⟨⟨v, hv, hown⟩, hbel, hszD⟩ hK
    obtain ⟨A2, c2, rfl, hc2⟩ := hown.form
    have hcv : W.cell? ⟨w.heap.size, 0, none⟩ = some (.slice A2 ((gotL 0 0 l).map Prod.snd).length c2) := by simp [World.cell?, hv]
    have hlen := (Array.getElem?_eq_some_iff.1 hv).1
    have hgl : (gotL 0 0 l).map Prod.snd = l := gotL_all (by simp)
    rw [hgl] at hcv hown hc2
    have HO := Lib.hid hown
    have HV := Lib.hid hv
    clear hown hv
    gi_wp2
    refine ⟨by simp, .inl ⟨_, _, rfl, run_takeDeferred hK, ?_⟩⟩
    have hg := grownBy_putObj' W D (.deferred none)
    have hO2 : OwnL (W.putObj D (.deferred none)) (w2.heap.size + 2) (fun b => w2.heap.size + 2 ≤ b) l (.slice A2 l.length c2) :=
      HO.out.keep (Keeps.grown hg fun k e (h : w2.heap.size + 2 ≤ k) => by injection e with e; omega) fun k hk => hg.block k (HO.out.own_lt k hk).2 (fun e => by injection e with e; have := (HO.out.own_lt k hk).1; omega)
    have hI : IsS (W.putObj D (.deferred none)) (fun b => w.heap.size ≤ b) l (.slice A2 l.length c2) := hO2.is (fun b (h : w2.heap.size + 2 ≤ b) => show w.heap.size ≤ b by omega) (fun b (h : w2.heap.size + 2 ≤ b) => show w.heap.size ≤ b by omega) (by omega)
    exact ⟨_, results_tmp rfl _ _ _, .slice A2 l.length c2, rfl, hI, hbel.grown hg hbel.size (fun k hk => by injection hk with hk; omega)⟩
end Go.Proofs.YtaeldfnihocljaaDoor
