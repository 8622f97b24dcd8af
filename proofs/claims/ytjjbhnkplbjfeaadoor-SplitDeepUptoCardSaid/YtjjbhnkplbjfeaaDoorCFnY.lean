/- What the law takes of an iterator, at most so much. -/
import Derived.Test.YtjjbhnkplbjfeaaDoorCFnX
import Derived.Test.YtjjbhnkplbjfeaaDoorCFnRh

set_option linter.unusedVariables false
set_option linter.unusedSimpArgs false
namespace Go.Proofs.YtjjbhnkplbjfeaaDoor
open Go.RowKit Go.Shelf
attribute [local go_sem] Oper.semAt_some lt_succ_of

theorem eqFunc (X : Addr) (w : World) : (binOp .eql 109 (.func (.func 100) #[] #[.pointer (some X)]) .nilFunc).run Tryd.prog w = .ok (.bool false) w := by kernel_rfl
attribute [local go_sem] eqFunc
theorem take_of_prefix {pre l : List V} {n : Nat} (h : pre <+: l) (hn : pre.length = n) : pre = l.take n := by
  obtain ⟨t, rfl⟩ := h
  rw [← hn, List.take_left']
  rfl
set_option maxRecDepth 100000 in
set_option maxHeartbeats 8000000 in
theorem gone_calls (l : List V) (p : Option Addr) (most : Nat) (w : World) (S0 : Nat → Prop) (hr : IsD w S0 l p) (hm1 : 1 ≤ most) (hm2 : most ≤ 65537) :
    Calls Tryd.prog 18 #[.pointer p, .int .i64 (most : Int)] w fun e w' => ∃ v, e = .returned v ∧ IsS w' (fun b => w.heap.size ≤ b) (l.take most) v ∧ Below w.heap.size w w' := by
  obtain ⟨M, hM⟩ : ∃ M, l.take most = M := ⟨_, rfl⟩
  have HM := Lib.hid hM
  have HML := Lib.hid (show M.length ≤ 65536 by have := hr.1; rw [← hM, List.length_take]; omega)
  rw [hM]
  clear hM
  refine (callsIn_wide (n := 9)).1 ?_
  have hl65 := hr.1
  have hrS : IsD w (fun b => S0 b ∧ b < w.heap.size) l p := hr.keep fun b hb hs => ⟨⟨hs, hb⟩, rfl⟩
  clear hr
  refine callsIn_of_wp_marks Tryd.func18 rfl trivial ?_ rfl
  simp only [Tryd.ntmps18, List.size_toArray, List.length_cons, List.length_nil, Nat.reduceAdd, Nat.reduceSub, Array.replicate_succ, Array.replicate_zero, List.push_toArray, List.append_toArray, List.nil_append, List.cons_append]
  obtain ⟨w1, hw1, hB1, hsz, k0, k1⟩ : ∃ w1, (w.alloc (.cells #[.int .i64 (most : Int)] 3)).alloc (.cells #[.slice none 0 0] 22) = w1 ∧ Below w.heap.size w w1 ∧ w1.heap.size = w.heap.size + 2 ∧ w1.heap[w.heap.size]? = some (.cells #[.int .i64 (most : Int)] 3 (0, 0)) ∧ w1.heap[w.heap.size + 1]? = some (.cells #[.slice none 0 0] 22 (0, 0)) := by
    refine ⟨_, rfl, ((Below.refl _ _).alloc (Nat.le_refl _) _).alloc (by simp) _, by simp, ?_, ?_⟩
    · rw [Below.heap_alloc _ _ _ (by simp)]
      exact heap_alloc_new w _
    · have := heap_alloc_new (w.alloc (.cells #[.int .i64 (most : Int)] 3)) (.cells #[.slice none 0 0] 22)
      simpa using this
  have HC := Lib.hid (callsIn_wide (n := 8).2 (all_calls p w1))
  have c0 : w1.cell? ⟨w.heap.size, 0, none⟩ = some (.int .i64 (most : Int)) := by simp [World.cell?, k0]
  have hm : ¬ ((most : Int) < 1) := by omega
  have hm3 : decide ((most : Int) < 1) = false := decide_eq_false hm
  have K := Lib.hid (And.intro k0 k1)
  clear k0 k1
  gi_wp2_with (first | (refine ⟨trivial, ?_⟩; gi_at_call 69; refine HC.out.mono ?_; rintro e w2 ⟨rfl, hX, hb2⟩; have HX := Lib.hid hX; have d0 := cellB hb2 c0; have l0 := World.block_lt_of_cell? w2 _ d0; clear hX c0))
  have hsz2 := hb2.size
  rw [hsz] at HX
  have hB2 : Below w.heap.size w w2 := below_then hB1 hB1.size hb2
  refine range_law 9 (gf := 100) (lb := #[.pointer (some ⟨w.heap.size + 2, 0, none⟩)]) rfl enters_all (G := l) (S := fun b => S0 b ∧ b < w.heap.size)
    (all_each l p _ _ w2 HX.out (hrS.below hB2)) rfl
    (fun T pre W => W.heap[w.heap.size]? = some (.cells #[.int .i64 (most : Int)] 3 (0, 0)) ∧ (∃ v, W.heap[w.heap.size + 1]? = some (.cells #[v] 22 (0, 0)) ∧ OwnL W (w2.heap.size + 2) (fun b => w2.heap.size + 2 ≤ b) pre v ∧ ∀ b, T b → b ≠ w.heap.size + 1 ∧ b < W.heap.size ∧ v.ownBlock ≠ some b) ∧ pre.length < most ∧ Below w.heap.size w W ∧ w2.heap.size ≤ W.heap.size)
    (fun c pre W => c = .exit 0 ∧ pre.length = most ∧ (∃ v, W.heap[w.heap.size + 1]? = some (.cells #[v] 22 (0, 0)) ∧ OwnL W (w2.heap.size + 2) (fun b => w2.heap.size + 2 ≤ b) pre v) ∧ Below w.heap.size w W ∧ w2.heap.size ≤ W.heap.size) ?hI ?hIx ?start ?round ?done ?stop
  case start =>
    intro T W hb hsz3 hT
    refine ⟨blockB hb (blockB hb2 K.out.1), ⟨_, blockB hb (blockB hb2 K.out.2), OwnL.nil _ _ _, fun b h => ?_⟩, by simp; omega, below_then hB2 hB2.size hb, by omega⟩
    have := hT b h
    exact ⟨by omega, by omega, by simp [Value.ownBlock]⟩
  case hI =>
    rintro T s W W' ⟨q0, ⟨v, hv, hown, hT⟩, hln, hbel, hsz3⟩ hg
    refine ⟨(hg.block _ (by omega) (fun e => by injection e with e; omega)).trans q0, ⟨v, (hg.block _ (Array.getElem?_eq_some_iff.1 hv).1 (fun e => by injection e with e; omega)).trans hv, hown.keep (Keeps.grown hg fun k e (h : w2.heap.size + 2 ≤ k) => by injection e with e; omega) fun k hk => hg.block k (hown.own_lt k hk).2 (fun e => by injection e with e; have := (hown.own_lt k hk).1; omega), fun b hb => ⟨(hT b hb).1, Nat.lt_of_lt_of_le (hT b hb).2.1 hg.size, (hT b hb).2.2⟩⟩, hln, hbel.grown hg hbel.size (fun k hk => by injection hk with hk; omega), Nat.le_trans hsz3 hg.size⟩
  case hIx =>
    rintro c s W W' ⟨q0, hln, ⟨v, hv, hown⟩, hbel, hsz3⟩ hg
    refine ⟨q0, hln, ⟨v, (hg.block _ (Array.getElem?_eq_some_iff.1 hv).1 (fun e => by injection e with e; omega)).trans hv, hown.keep (Keeps.grown hg fun k e (h : w2.heap.size + 2 ≤ k) => by injection e with e; omega) fun k hk => hg.block k (hown.own_lt k hk).2 (fun e => by injection e with e; have := (hown.own_lt k hk).1; omega)⟩, hbel.grown hg hbel.size (fun k hk => by injection hk with hk; omega), Nat.le_trans hsz3 hg.size⟩
  case round =>
    rintro T l0 pre x v W0 W m ⟨q0, ⟨v0, hv0, hown, hT0⟩, hln, hbel, hsz0⟩ hW hszW hv hpre
    obtain ⟨hbd, A, cap, rfl, hcap, hLA⟩ := hv.eq
    gi_wp2
    refine ⟨(Below.refl _ _).alloc (Nat.le_refl _) _, ?_⟩
    rintro Wb hgb ⟨p0, ⟨v, hvb, hob, hTb⟩, _, hbelb, hszb⟩
    have hsW := hW.size
    have hne : W.heap.size ≠ w2.heap.size + 1 := by omega
    have hbx : Wb.heap[W.heap.size]? = some (.cells #[.int .i64 x.kind, .int .i64 x.num, .string x.text, .slice A x.items.length cap] 33 (0, 0)) := (hgb.block W.heap.size (by simp) (fun e => hne (by injection e))).trans (heap_alloc_new W _)
    have hvv : v = v0 := by
      have h1 := (hgb.block (w.heap.size + 1) (by simp; omega) (fun e => by injection e with e; omega)).symm.trans hvb
      rw [Below.heap_alloc _ _ _ (by omega), hW.block (w.heap.size + 1) (by omega), hv0] at h1
      injection h1 with h1
      injection h1 with h1
      injection h1 with h1
      injection h1 with h1
      exact h1.symm
    subst hvv
    have hown2 := hown.own_lt
    obtain ⟨A2, c2, rfl, hc2⟩ := hob.form
    have hKy : Keeps W (fun b => W0.heap.size ≤ b) Wb (fun b => w2.heap.size + 2 ≤ b ∧ some b ≠ (Value.slice A2 pre.length c2).ownBlock) := by
      refine ((Keeps.alloc _).trans (Keeps.grown hgb fun k e (h : W0.heap.size ≤ k) => by injection e with e; omega)).trans (Keeps.weak fun b (h : W0.heap.size ≤ b) => ⟨by omega, fun e => by have := (hown2 b e.symm).2; omega⟩)
    have hy := VC.mk hbd hcap (hLA.keep hKy)
    have hlen : pre.length + 1 ≤ l.length := by
      have h1 := hpre.length_le
      rwa [List.length_append] at h1
    have hwb := hgb.size
    simp only [World.size_alloc] at hwb
    have g1 : Wb.cell? ⟨w.heap.size + 1, 0, none⟩ = some (.slice A2 pre.length c2) := by simp [World.cell?, hvb]
    have HLN := Lib.hid hln
    clear hln
    gi_wp2
    refine round_gone l0 m Wb (w2.heap.size + 2) (fun b => w2.heap.size + 2 ≤ b) (w.heap.size + 1) W.heap.size pre A2 c2 x _ _ _ _ _ _ _ _ _ _ _ _ _ _ _ _ _ _ _ _ _ _ _ _ _ _ _ _ _ _ _ _ hvb hbx rfl ⟨_, _, _, rfl⟩ hob (by omega) (by omega) (by omega) (fun e => by have := (hown2 _ e).1; omega) (fun e => by have := (hown2 _ e).2; omega) hy ?_
    intro g cap1 W' h1 h2 h3
    have hc8 : W'.cell? ⟨w.heap.size + 1, 0, none⟩ = some (.slice (some ⟨g, 0, none⟩) (pre.length + 1) cap1) := by simp [World.cell?, h1]
    have hcp : ∀ k o, k < w2.heap.size → k ≠ w.heap.size + 1 → Wb.heap[k]? = some o → W'.heap[k]? = some o := fun k o hk hne ho => (h3.block k (by omega) hne (fun e => by have := (hown2 k e.symm).1; omega)).trans ho
    have z0 := hcp _ _ (by omega) (by omega) p0
    have hc5 : W'.cell? ⟨w.heap.size, 0, none⟩ = some (.int .i64 (most : Int)) := by simp [World.cell?, z0]
    have hbF : Below w.heap.size w W' := ⟨h3.os.trans hbelb.os, h3.tape.trans hbelb.tape, h3.output.trans hbelb.output, Nat.le_trans hbelb.size h3.size, fun k hk => by
      rw [h3.block k (by omega) (by omega) (fun e => by have := (hown2 k e.symm).1; omega)]
      exact hbelb.block k hk⟩
    have hKF : KeepsFrom w2.heap.size Wb W' := ⟨h3.size, fun k o hk ho hoc => by
      have hkl := (Array.getElem?_eq_some_iff.1 ho).1
      refine (h3.block k hkl (fun e => ?_) (fun e => ?_)).trans ho
      · omega
      · obtain ⟨xs, ⟨_, hh⟩, _⟩ := hob
        rcases hh with ⟨hh, _⟩ | ⟨g, cap', cur, hh, hg1, hg2, _⟩
        · rw [hh] at e; cases e
        · rw [hh] at e
          injection e with e
          subst e
          rw [hg2] at ho
          cases ho
          cases hoc⟩
    have hST : Still T Wb W' := ⟨h3.size, fun k hk => h3.block k (hTb k hk).2.1 (hTb k hk).1 (fun e => (hTb k hk).2.2 e.symm)⟩
    have hOT : ∀ b, T b → b ≠ w.heap.size + 1 ∧ b < W'.heap.size ∧ (Value.slice (some ⟨g, 0, none⟩) (pre.length + 1) cap1).ownBlock ≠ some b := fun b hb => ⟨(hTb b hb).1, Nat.lt_of_lt_of_le (hTb b hb).2.1 h3.size, fun e => by
      rcases h3.own with h4 | ⟨g, h4, h5⟩
      · rw [h4] at e; exact (hTb b hb).2.2 e
      · rw [h4] at e; injection e with e; have := (hTb b hb).2.1; omega⟩
    have HH := Lib.hid (And.intro h1 (And.intro h2 (And.intro hKF (And.intro hST (And.intro hOT (And.intro z0 hbF))))))
    have hsz9 := Nat.le_trans hszb h3.size
    clear p0 q0 h1 h2 h3 hcp hKF hST hOT z0 hbF hob hTb hy hKy hvb hbx hT0 hown hown2 hv0
    by_cases hlt : pre.length + 1 < most
    · have e1 : ¬ ((most : Int) ≤ (pre.length : Int) + 1) := by omega
      have e2 : (pre.length : Int) + 1 < (most : Int) := by omega
      gi_wp2
      obtain ⟨h1, h2, hKF, hST, hOT, z0, hbF⟩ := HH.out
      exact ⟨hKF, hST, z0, ⟨_, h1, h2, hOT⟩, by simp; omega, hbF, hsz9⟩
    · have e1 : (most : Int) ≤ (pre.length : Int) + 1 := by omega
      gi_wp2
      obtain ⟨h1, h2, hKF, hST, hOT, z0, hbF⟩ := HH.out
      exact ⟨hKF, rfl, by have := HLN.out; simp; omega, ⟨_, h1, h2⟩, hbF, hsz9⟩
  case done =>
    rintro T D W hD ⟨q0, ⟨v, hv, hown, _⟩, hln, hbel, hszD⟩ hK
    have hll : l = M := by rw [← HM.out]; exact (List.take_of_length_le (by omega)).symm
    rw [hll] at hown
    clear hll hln
    obtain ⟨A2, c2, rfl, hc2⟩ := hown.form
    have hcv : W.cell? ⟨w.heap.size + 1, 0, none⟩ = some (.slice A2 M.length c2) := by simp [World.cell?, hv]
    have hlen := (Array.getElem?_eq_some_iff.1 hv).1
    have HO := Lib.hid hown
    have HV := Lib.hid hv
    clear hown hv
    gi_wp2
    refine ⟨by simp, .inl ⟨_, _, rfl, run_takeDeferred hK, ?_⟩⟩
    have hg := grownBy_putObj' W D (.deferred none)
    have hO2 : OwnL (W.putObj D (.deferred none)) (w2.heap.size + 2) (fun b => w2.heap.size + 2 ≤ b) M (.slice A2 M.length c2) :=
      HO.out.keep (Keeps.grown hg fun k e (h : w2.heap.size + 2 ≤ k) => by injection e with e; omega) fun k hk => hg.block k (HO.out.own_lt k hk).2 (fun e => by injection e with e; have := (HO.out.own_lt k hk).1; omega)
    have hI : IsS (W.putObj D (.deferred none)) (fun b => w.heap.size ≤ b) M (.slice A2 M.length c2) := hO2.is (fun b (h : w2.heap.size + 2 ≤ b) => show w.heap.size ≤ b by omega) (fun b (h : w2.heap.size + 2 ≤ b) => show w.heap.size ≤ b by omega) (by have := HML.out; omega)
    exact ⟨_, results_tmp rfl _ _ _, .slice A2 M.length c2, rfl, hI, hbel.grown hg hbel.size (fun k hk => by injection hk with hk; omega)⟩
  case stop =>
    rintro D c pre W hD hpre ⟨rfl, hln, ⟨v, hv, hown⟩, hbel, hszD⟩ hK
    rw [take_of_prefix hpre hln, HM.out] at hown
    clear hln hpre
    obtain ⟨A2, c2, rfl, hc2⟩ := hown.form
    have hcv : W.cell? ⟨w.heap.size + 1, 0, none⟩ = some (.slice A2 M.length c2) := by simp [World.cell?, hv]
    have hlen := (Array.getElem?_eq_some_iff.1 hv).1
    have HO := Lib.hid hown
    have HV := Lib.hid hv
    clear hown hv
    gi_wp2
    refine ⟨by simp, .inl ⟨_, _, rfl, run_takeDeferred hK, ?_⟩⟩
    have hg := grownBy_putObj' W D (.deferred none)
    have hO2 : OwnL (W.putObj D (.deferred none)) (w2.heap.size + 2) (fun b => w2.heap.size + 2 ≤ b) M (.slice A2 M.length c2) :=
      HO.out.keep (Keeps.grown hg fun k e (h : w2.heap.size + 2 ≤ k) => by injection e with e; omega) fun k hk => hg.block k (HO.out.own_lt k hk).2 (fun e => by injection e with e; have := (HO.out.own_lt k hk).1; omega)
    have hI : IsS (W.putObj D (.deferred none)) (fun b => w.heap.size ≤ b) M (.slice A2 M.length c2) := hO2.is (fun b (h : w2.heap.size + 2 ≤ b) => show w.heap.size ≤ b by omega) (fun b (h : w2.heap.size + 2 ≤ b) => show w.heap.size ≤ b by omega) (by have := HML.out; omega)
    exact ⟨_, results_tmp rfl _ _ _, .slice A2 M.length c2, rfl, hI, hbel.grown hg hbel.size (fun k hk => by injection hk with hk; omega)⟩
end Go.Proofs.YtjjbhnkplbjfeaaDoor
