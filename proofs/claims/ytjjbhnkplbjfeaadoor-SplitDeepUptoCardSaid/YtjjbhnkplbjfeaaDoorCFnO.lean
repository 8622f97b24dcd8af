/- A deque's items. -/
import Derived.Test.YtjjbhnkplbjfeaaDoorCFnN

set_option linter.unusedVariables false
set_option linter.unusedSimpArgs false
namespace Go.Proofs.YtjjbhnkplbjfeaaDoor
open Go.RowKit Go.Shelf
attribute [local go_sem] Oper.semAt_some lt_succ_of

theorem enters_all (args : Array Value) (w : World) : (callFunc 100 args).run Tryd.prog w = .ok (.enter 100 args) w := enters_of Tryd.func100 (by kernel_rfl) rfl args w
set_option maxRecDepth 100000 in
set_option maxHeartbeats 8000000 in
theorem items_calls (l : List V) (p : Option Addr) (w : World) (S0 : Nat → Prop) (hr : IsD w S0 l p) :
    Calls Tryd.prog 37 #[.pointer p] w fun e w' => ∃ v, e = .returned v ∧ IsS w' (fun b => w.heap.size ≤ b) l v ∧ Below w.heap.size w w' := by
  refine (callsIn_wide (n := 9)).1 ?_
  have hl65 := hr.1
  have hrS : IsD w (fun b => S0 b ∧ b < w.heap.size) l p := hr.keep fun b hb hs => ⟨⟨hs, hb⟩, rfl⟩
  clear hr
  refine callsIn_of_wp_marks Tryd.func37 rfl trivial ?_ rfl
  simp only [Tryd.ntmps37, List.size_toArray, List.length_cons, List.length_nil, Nat.reduceAdd, Nat.reduceSub, Array.replicate_succ, Array.replicate_zero, List.push_toArray, List.append_toArray, List.nil_append, List.cons_append]
  obtain ⟨w1, hw1, hB1, hsz, hb0⟩ : ∃ w1, w.alloc (.cells #[.slice none 0 0] 22) = w1 ∧ Below w.heap.size w w1 ∧ w.heap.size + 1 = w1.heap.size ∧ w1.heap[w.heap.size]? = some (.cells #[.slice none 0 0] 22 (0, 0)) :=
    ⟨_, rfl, (Below.refl _ _).alloc (Nat.le_refl _) _, by simp, heap_alloc_new w _⟩
  have HC := Lib.hid (callsIn_wide (n := 8).2 (all_calls p w1))
  gi_wp2_with (first | (refine ⟨trivial, ?_⟩; gi_at_call 69; refine HC.out.mono ?_; rintro e w2 ⟨rfl, hX, hb2⟩; have HX := Lib.hid hX; clear hX))
  have hsz2 := hb2.size
  have hB2 : Below w.heap.size w w2 := below_then hB1 hB1.size hb2
  have hb02 := blockB hb2 hb0
  refine range_law 9 (gf := 100) (lb := #[.pointer (some ⟨w1.heap.size, 0, none⟩)]) rfl enters_all (G := l) (S := fun b => S0 b ∧ b < w.heap.size)
    (all_each l p _ _ w2 HX.out (hrS.below hB2)) rfl
    (fun T pre W => (∃ v, W.heap[w.heap.size]? = some (.cells #[v] 22 (0, 0)) ∧ OwnL W (w2.heap.size + 2) (fun b => w2.heap.size + 2 ≤ b) pre v ∧ ∀ b, T b → b ≠ w.heap.size ∧ b < W.heap.size ∧ v.ownBlock ≠ some b) ∧ Below w.heap.size w W ∧ w2.heap.size ≤ W.heap.size)
    (fun _ _ _ => False) ?hI (fun _ _ _ _ h _ => h) ?start ?round ?done (fun _ _ _ _ _ _ h _ => h.elim)
  case start =>
    intro T W hb hsz3 hT
    refine ⟨⟨_, blockB hb hb02, OwnL.nil _ _ _, fun b h => ?_⟩, below_then hB2 hB2.size hb, by omega⟩
    have := hT b h
    exact ⟨by omega, by omega, by simp [Value.ownBlock]⟩
  case hI =>
    rintro T s W W' ⟨⟨v, hv, hown, hT⟩, hbel, hsz3⟩ hg
    refine ⟨⟨v, (hg.block _ (Array.getElem?_eq_some_iff.1 hv).1 (fun e => by injection e with e; omega)).trans hv, hown.keep (Keeps.grown hg fun k e (h : w2.heap.size + 2 ≤ k) => by injection e with e; omega) fun k hk => hg.block k (hown.own_lt k hk).2 (fun e => by injection e with e; have := (hown.own_lt k hk).1; omega), fun b hb => ⟨(hT b hb).1, Nat.lt_of_lt_of_le (hT b hb).2.1 hg.size, (hT b hb).2.2⟩⟩, hbel.grown hg hbel.size (fun k hk => by injection hk with hk; omega), Nat.le_trans hsz3 hg.size⟩
  case round =>
    rintro T l0 pre x v W0 W m ⟨⟨v0, hv0, hown, hT0⟩, hbel, hsz0⟩ hW hszW hv hpre
    obtain ⟨hbd, A, cap, rfl, hcap, hLA⟩ := hv.eq
    gi_wp2
    refine ⟨(Below.refl _ _).alloc (Nat.le_refl _) _, ?_⟩
    rintro Wb hgb ⟨⟨v, hvb, hob, hTb⟩, hbelb, hszb⟩
    have hsW := hW.size
    have hne : W.heap.size ≠ w2.heap.size + 1 := by omega
    have hbx : Wb.heap[W.heap.size]? = some (.cells #[.int .i64 x.kind, .int .i64 x.num, .string x.text, .slice A x.items.length cap] 33 (0, 0)) := (hgb.block W.heap.size (by simp) (fun e => hne (by injection e))).trans (heap_alloc_new W _)
    have hvv : v = v0 := by
      have h1 := (hgb.block w.heap.size (by simp; omega) (fun e => by injection e with e; omega)).symm.trans hvb
      rw [Below.heap_alloc _ _ _ (by omega), hW.block w.heap.size (by omega), hv0] at h1
      injection h1 with h1
      injection h1 with h1
      injection h1 with h1
      injection h1 with h1
      exact h1.symm
    subst hvv
    have hown2 := hown.own_lt
    obtain ⟨A2, c2, rfl, hc2⟩ := hob.form
    have hKy : Keeps W (fun b => W0.heap.size ≤ b) Wb (fun b => w2.heap.size + 2 ≤ b ∧ some b ≠ (Value.slice A2 pre.length c2).ownBlock) := by
      refine ((Keeps.alloc _).trans (Keeps.grown hgb fun k e (h : W0.heap.size ≤ k) => by injection e with e; omega)).trans (Keeps.weak fun b (h : W0.heap.size ≤ b) => ⟨by omega, fun e => by have := (hown2 b e.symm).2; omega⟩)
    have hy := VC.mk hbd hcap (hLA.keep hKy)
    have hlen : pre.length ≤ 4294967296 := by
      have h1 := hpre.length_le
      rw [List.length_append] at h1
      omega
    have hwb := hgb.size
    simp only [World.size_alloc] at hwb
    gi_wp2
    refine round_items l0 m Wb (w2.heap.size + 2) (fun b => w2.heap.size + 2 ≤ b) w.heap.size W.heap.size pre A2 c2 x _ _ _ _ _ _ _ _ _ _ _ _ _ _ _ _ _ _ hvb hbx rfl ⟨_, _, _, rfl⟩ hob (by omega) hlen (by omega) (fun e => by have := (hown2 _ e).1; omega) (fun e => by have := (hown2 _ e).2; omega) hy ?_
    intro a' v1 W' h1 h2 h3
    refine ⟨⟨h3.size, fun k o hk ho hoc => ?_⟩, ⟨h3.size, fun k hk => ?_⟩, ⟨⟨v1, h1, h2, fun b hb => ⟨(hTb b hb).1, Nat.lt_of_lt_of_le (hTb b hb).2.1 h3.size, fun e => ?_⟩⟩, ⟨h3.os.trans hbelb.os, h3.tape.trans hbelb.tape, h3.output.trans hbelb.output, Nat.le_trans hbelb.size h3.size, fun k hk => ?_⟩, Nat.le_trans hszb h3.size⟩⟩
    · have hkl := (Array.getElem?_eq_some_iff.1 ho).1
      refine (h3.block k hkl (fun e => ?_) (fun e => ?_)).trans ho
      · omega
      · obtain ⟨xs, ⟨_, hh⟩, _⟩ := hob
        rcases hh with ⟨hh, _⟩ | ⟨g, cap', cur, hh, hg1, hg2, _⟩
        · rw [hh] at e; cases e
        · rw [hh] at e
          injection e with e
          subst e
          rw [hg2] at ho
          cases ho
          cases hoc
    · exact h3.block k (hTb k hk).2.1 (hTb k hk).1 (fun e => (hTb k hk).2.2 e.symm)
    · rcases h3.own with h4 | ⟨g, h4, h5⟩
      · rw [h4] at e; exact (hTb b hb).2.2 e
      · rw [h4] at e; injection e with e; have := (hTb b hb).2.1; omega
    · rw [h3.block k (by omega) (by omega) (fun e => by have := (hown2 k e.symm).1; omega)]
      exact hbelb.block k hk
  case done =>
    rintro T D W hD ⟨⟨v, hv, hown, _⟩, hbel, hszD⟩ hK
    obtain ⟨A2, c2, rfl, hc2⟩ := hown.form
    have hcv : W.cell? ⟨w.heap.size, 0, none⟩ = some (.slice A2 l.length c2) := by simp [World.cell?, hv]
    have hlen := (Array.getElem?_eq_some_iff.1 hv).1
    have HO := Lib.hid hown
    have HV := Lib.hid hv
    clear hown hv
    gi_wp2
    refine ⟨by simp, .inl ⟨_, _, rfl, run_takeDeferred hK, ?_⟩⟩
    have hg := grownBy_putObj' W D (.deferred none)
    have hO2 : OwnL (W.putObj D (.deferred none)) (w2.heap.size + 2) (fun b => w2.heap.size + 2 ≤ b) l (.slice A2 l.length c2) :=
      HO.out.keep (Keeps.grown hg fun k e (h : w2.heap.size + 2 ≤ k) => by injection e with e; omega) fun k hk => hg.block k (HO.out.own_lt k hk).2 (fun e => by injection e with e; have := (HO.out.own_lt k hk).1; omega)
    have hI : IsS (W.putObj D (.deferred none)) (fun b => w.heap.size ≤ b) l (.slice A2 l.length c2) := hO2.is (fun b (h : w2.heap.size + 2 ≤ b) => show w.heap.size ≤ b by omega) (fun b (h : w2.heap.size + 2 ≤ b) => show w.heap.size ≤ b by omega) (by omega)
    exact ⟨_, results_tmp rfl _ _ _, .slice A2 l.length c2, rfl, hI, hbel.grown hg hbel.size (fun k hk => by injection hk with hk; omega)⟩
end Go.Proofs.YtjjbhnkplbjfeaaDoor
