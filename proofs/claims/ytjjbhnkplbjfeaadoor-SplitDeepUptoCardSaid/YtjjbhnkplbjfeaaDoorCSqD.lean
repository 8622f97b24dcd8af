/- Two deques joined. Both deques. -/
import Derived.Test.YtjjbhnkplbjfeaaDoorCSpS
import Derived.Test.YtjjbhnkplbjfeaaDoorCSpJ
/- Two deques joined. -/
set_option linter.unusedVariables false
set_option linter.unusedSimpArgs false
namespace Go.Proofs.YtjjbhnkplbjfeaaDoor
open Go.RowKit Go.Shelf
attribute [local go_sem] Oper.semAt_some lt_succ_of

set_option maxRecDepth 100000 in
set_option maxHeartbeats 8000000 in
theorem concat_ok (la lb : List V) (ba : Nat) (q : Option Addr) (w : World) (S S0 : Nat → Prop) (ha : IsE w S la ba) (hr : IsD w S0 lb q) (hla : listE la = 0) (hlb : listE lb = 0) (hlen : la.length + lb.length ≤ 65536) (hT : Lib.Utf8Tabs 1 2 w) :
    Calls Tryd.prog 54 #[.pointer (some ⟨ba, 0, none⟩), .pointer q] w fun e w' => ∃ b, e = .returned (.tuple #[.pointer (some ⟨b, 0, none⟩), .int .i64 0]) ∧ IsE w' (fun _ => True) (la ++ lb) b ∧ Below w.heap.size w w' := by
  refine (callsIn_wide (n := 9)).1 ?_
  have hl65 := hr.1
  have hrS : IsD w (fun b => S0 b ∧ b < w.heap.size) lb q := hr.keep fun b hb hs => ⟨⟨hs, hb⟩, rfl⟩
  have HL1 := Lib.hid (callsIn_wide (n := 8).2 (len_calls la _ w S ha.is))
  have HL2 := Lib.hid (callsIn_wide (n := 8).2 (len_calls lb _ w S0 hr))
  have i1 : IntKind.i64.wrap ((la.length : Int) + (lb.length : Int)) = (la.length : Int) + (lb.length : Int) := IntWalk.i64_in _ (by omega)
  have d1 : decide ((65536 : Int) < (la.length : Int) + (lb.length : Int)) = false := decide_eq_false (by omega)
  clear hr
  refine callsIn_of_wp_marks Tryd.func54 rfl trivial ?_ rfl
  simp only [Tryd.ntmps54, List.size_toArray, List.length_cons, List.length_nil, Nat.reduceAdd, Nat.reduceSub, Array.replicate_succ, Array.replicate_zero, List.push_toArray, List.append_toArray, List.nil_append, List.cons_append]
  gi_wp2_with (first
    | (refine ⟨trivial, ?_⟩; gi_at_call 33; refine HL1.out.mono ?_; rintro e w3 ⟨rfl, rfl⟩; clear HL1)
    | (refine ⟨trivial, ?_⟩; gi_at_call 33; refine HL2.out.mono ?_; rintro e w3 ⟨rfl, rfl⟩; clear HL2))
  obtain ⟨w1, hw1, hB1, hsz, hb0⟩ : ∃ w1, w.alloc (.cells #[.pointer (some ⟨ba, 0, none⟩)] 23) = w1 ∧ Below w.heap.size w w1 ∧ w1.heap.size = w.heap.size + 1 ∧ w1.heap[w.heap.size]? = some (.cells #[.pointer (some ⟨ba, 0, none⟩)] 23 (0, 0)) :=
    ⟨_, rfl, (Below.refl _ _).alloc (Nat.le_refl _) _, by simp, heap_alloc_new w _⟩
  have HC := Lib.hid (callsIn_wide (n := 8).2 (all_calls q w1))
  have c0 := block1 hb0
  have K := Lib.hid hb0
  have HT := Lib.hid hT
  have HA := Lib.hid (ha.keep (S' := fun b => S b ∧ b < w.heap.size) (fun b hb hs => ⟨⟨hs, hb⟩, rfl⟩))
  have HLA := Lib.hid hla
  have HLB := Lib.hid hlb
  clear hb0 ha hla hlb hT
  rw [hw1]
  gi_wp2_with (first | (refine ⟨trivial, ?_⟩; gi_at_call 69; refine HC.out.mono ?_; rintro e w2 ⟨rfl, hX, hb2⟩; have HX := Lib.hid hX; clear hX))
  have hsz2 := hb2.size
  rw [hsz] at HX hsz2
  have hB2 : Below w.heap.size w w2 := below_then hB1 hB1.size hb2
  refine range_law 9 (gf := 100) (lb := #[.pointer (some ⟨w.heap.size + 1, 0, none⟩)]) rfl enters_all (G := lb) (S := fun b => S0 b ∧ b < w.heap.size)
    (all_each lb q _ _ w2 HX.out (hrS.below hB2)) rfl
    (fun T pre W => (∃ b, W.heap[w.heap.size]? = some (.cells #[.pointer (some ⟨b, 0, none⟩)] 23 (0, 0)) ∧ IsE W (fun b => (b < w2.heap.size ∧ b ≠ w.heap.size) ∨ w2.heap.size + 2 ≤ b) (la ++ pre) b) ∧ (∀ b, T b → b ≠ w.heap.size ∧ b < W.heap.size) ∧ Below w.heap.size w W ∧ w2.heap.size ≤ W.heap.size)
    (fun _ _ _ => False) ?hI (fun _ _ _ _ h _ => h) ?start ?round ?done (fun _ _ _ _ _ _ h _ => h.elim)
  case start =>
    intro T W hb hsz3 hT
    refine ⟨⟨ba, blockB hb (blockB hb2 K.out), ?_⟩, fun b h => ?_, below_then hB2 hB2.size hb, by omega⟩
    · rw [List.append_nil]
      exact HA.out.keep fun b hb1 hs => ⟨.inl ⟨by omega, by omega⟩, (chain_then hB2 hb).block b hb1⟩
    · have := hT b h
      exact ⟨by omega, by omega⟩
  case hI =>
    rintro T s W W' ⟨⟨b, hv, hE⟩, hT, hbel, hsz3⟩ hg
    exact ⟨⟨b, (hg.block _ (Array.getElem?_eq_some_iff.1 hv).1 (fun e => by injection e with e; omega)).trans hv, hE.keep fun k hk hs => ⟨hs, hg.block k hk (fun e => by injection e with e; omega)⟩⟩, fun b hb => ⟨(hT b hb).1, Nat.lt_of_lt_of_le (hT b hb).2 hg.size⟩, hbel.grown hg hbel.size (fun k hk => by injection hk with hk; omega), Nat.le_trans hsz3 hg.size⟩
  case round =>
    rintro T l0 pre x v W0 W n9 ⟨_, _, _, _⟩ hW hszW hv hpre
    obtain ⟨hbd, A, cap, rfl, hcap, hLA⟩ := hv.eq
    gi_wp2
    refine ⟨(Below.refl _ _).alloc (Nat.le_refl _) _, ?_⟩
    rintro Wb hgb ⟨⟨b, hvb, hE⟩, hTb, hbelb, hszb⟩
    have hsW := hW.size
    have hbx : Wb.heap[W.heap.size]? = some (.cells #[.int .i64 x.kind, .int .i64 x.num, .string x.text, .slice A x.items.length cap] 33 (0, 0)) := (hgb.block W.heap.size (by simp) (fun e => by injection e with e; omega)).trans (heap_alloc_new W _)
    have hwb := hgb.size
    simp only [World.size_alloc] at hwb
    have hlen1 : pre.length + 1 ≤ lb.length := by
      have h1 := hpre.length_le
      rwa [List.length_append] at h1
    have hX := hv.keep (w' := Wb) (S' := fun b => (b < w2.heap.size ∧ b ≠ w.heap.size) ∨ w2.heap.size + 2 ≤ b) ((Keeps.alloc _).trans (Keeps.grown hgb fun k e (h : W0.heap.size ≤ k) => by injection e with e; omega) |>.trans (Keeps.weak fun k (h : W0.heap.size ≤ k) => .inr (by omega)))
    have hxm : x ∈ lb := hpre.subset (by simp)
    have hp0 : pushE (la ++ pre) x = 0 := pushE_ok (listE_right HLB.out x hxm) (by rw [List.length_append]; omega)
    have HBK := dback_calls (la ++ pre) (some ⟨b, 0, none⟩) x _ Wb _ hE.is hX (tabs_below HT.out hbelb)
    rw [hp0] at HBK
    have HBK := Lib.hid HBK
    obtain ⟨x0, x1, x2, x3⟩ := block4 hbx
    have c1 := block1 hvb
    have HVB := Lib.hid hvb
    have HT2 := Lib.hid hTb
    have HB := Lib.hid hbelb
    have hlw := (Array.getElem?_eq_some_iff.1 hvb).1
    clear hX hE hTb hbelb hbd hLA hv hbx hvb hp0 hxm
    gi_wp2_with (refine ⟨trivial, (fun h => by cases h), ?_⟩; refine (CallsIn.inRound l0 (callsIn_wide.2 HBK.out)).mono ?_; rintro e w3 ⟨p3, rfl, hp3, hb3⟩; obtain ⟨b3, rfl, hd3⟩ := (hp3.resolve_left (fun h => h.1 rfl)).2; have k3 := blockB hb3 HVB.out; have c3 := block1 k3; have fz3 := free4 k3; have K3 := Lib.hid k3; have HD3 := Lib.hid hd3; clear hp3 hd3 k3)
    obtain ⟨w4, hw4, k4, hot4, hb4⟩ : ∃ w4, w3.setCell ⟨w.heap.size, 0, none⟩ (.pointer (some ⟨b3, 0, none⟩)) = w4 ∧ w4.heap[w.heap.size]? = some (.cells #[.pointer (some ⟨b3, 0, none⟩)] 23 (0, 0)) ∧ (∀ k, k ≠ w.heap.size → w4.heap[k]? = w3.heap[k]?) ∧ w4.heap.size = w3.heap.size :=
      ⟨_, rfl, by have := blockset K3.out 0 (.pointer (some ⟨b3, 0, none⟩)); simpa using this, fun k hk => Below.heap_setCell _ _ _ _ hk, by simp⟩
    rw [hw4]
    have hsz4 := hb3.size
    refine ⟨?_, ?_, ⟨b3, k4, ?_⟩, fun k hk => ⟨(HT2.out k hk).1, by have := (HT2.out k hk).2; omega⟩, ?_, by omega⟩
    · rw [← hw4]
      exact keepsFrom_set (keepsFrom_below hb3) (by show w.heap.size < _; omega) _
    · rw [← hw4]
      exact still_set (Still.below hb3 fun k hk => (HT2.out k hk).2) (fun hk => (HT2.out _ hk).1 rfl) _
    · rw [← List.append_assoc]
      refine HD3.out.keep fun k hk hs => ?_
      have hk2 : ((k < w2.heap.size ∧ k ≠ w.heap.size) ∨ w2.heap.size + 2 ≤ k) := by
        rcases hs with ⟨hs, _⟩ | hs
        · exact hs
        · exact .inr (by omega)
      exact ⟨hk2, hot4 k (by omega)⟩
    · rw [← hw4]
      exact (chain_then HB.out hb3).setCell (Nat.le_refl _) _
  case done =>
    rintro T D W hD ⟨⟨b, hv, hE⟩, _, hbel, hszD⟩ hK
    have c1 := block1 hv
    have hlen2 := (Array.getElem?_eq_some_iff.1 hv).1
    have HE := Lib.hid hE
    have HV := Lib.hid hv
    clear hE hv
    gi_wp2
    refine ⟨by simp, .inl ⟨_, _, rfl, run_takeDeferred hK, ?_⟩⟩
    have hg := grownBy_putObj' W D (.deferred none)
    have h66 : IsE (W.putObj D (.deferred none)) (fun _ => True) (la ++ lb) b := HE.out.keep fun k hk hs => ⟨trivial, hg.block k hk (fun e => by injection e with e; omega)⟩
    exact ⟨.tuple #[.pointer (some ⟨b, 0, none⟩), .int .i64 0], by simp [results, Tryd.results54, go_sem], b, rfl, h66, hbel.grown hg hbel.size (fun k hk => by injection hk with hk; omega)⟩
set_option maxRecDepth 100000 in
set_option maxHeartbeats 8000000 in
theorem concat_long (la lb : List V) (p q : Option Addr) (w : World) (S S0 : Nat → Prop) (ha : IsD w S la p) (hr : IsD w S0 lb q) (hlen : 65536 < la.length + lb.length) :
    Calls Tryd.prog 54 #[.pointer p, .pointer q] w fun e w' => e = .returned (.tuple #[.pointer none, .int .i64 2]) ∧ Below w.heap.size w w' := by
  refine (callsIn_wide (n := 9)).1 ?_
  have h1 := ha.1
  have h2 := hr.1
  have HL1 := Lib.hid (callsIn_wide (n := 8).2 (len_calls la _ w S ha))
  have HL2 := Lib.hid (callsIn_wide (n := 8).2 (len_calls lb _ w S0 hr))
  have i1 : IntKind.i64.wrap ((la.length : Int) + (lb.length : Int)) = (la.length : Int) + (lb.length : Int) := IntWalk.i64_in _ (by omega)
  have d1 : decide ((65536 : Int) < (la.length : Int) + (lb.length : Int)) = true := decide_eq_true (by omega)
  clear hr ha
  refine callsIn_of_wp_marks Tryd.func54 rfl trivial ?_ rfl
  simp only [Tryd.ntmps54, List.size_toArray, List.length_cons, List.length_nil, Nat.reduceAdd, Nat.reduceSub, Array.replicate_succ, Array.replicate_zero, List.push_toArray, List.append_toArray, List.nil_append, List.cons_append]
  gi_wp2_with (first
    | (refine ⟨trivial, ?_⟩; gi_at_call 33; refine HL1.out.mono ?_; rintro e w3 ⟨rfl, rfl⟩; clear HL1)
    | (refine ⟨trivial, ?_⟩; gi_at_call 33; refine HL2.out.mono ?_; rintro e w3 ⟨rfl, rfl⟩; clear HL2))
  exact ⟨.tuple #[.pointer none, .int .i64 2], by simp [results, Tryd.results54, go_sem], rfl, Below.refl _ _⟩
end Go.Proofs.YtjjbhnkplbjfeaaDoor

/- Both deques. -/
set_option linter.unusedVariables false
set_option linter.unusedSimpArgs false
namespace Go.Proofs.YtjjbhnkplbjfeaaDoor
open Go.RowKit
attribute [local go_sem] lt_succ_of

theorem listE_append {l m : List V} (h : listE l = 0) (h2 : listE m = 0) (hl : l.length + m.length ≤ 65536) : listE (l ++ m) = 0 :=
  listE_of (fun x hx => by rcases List.mem_append.1 hx with hx | hx; exact listE_right h x hx; exact listE_right h2 x hx) (by rw [List.length_append]; exact hl)
/-- What finger.Of tells, a deque or none. -/
theorem of_out (l : List V) (vl : Value) (w : World) (S : Nat → Prop) (hl : IsS w S l vl) (hT : Lib.Utf8Tabs 1 2 w) :
    Calls Tryd.prog 13 #[vl] w fun e w' => ∃ p, e = .returned (.tuple #[.pointer p, .int .i64 (listE l)]) ∧ OutP w' l (listE l) p ∧ Below w.heap.size w w' := by
  refine (dof_calls l vl w S hl hT).mono ?_
  rintro e w' ⟨p, rfl, (⟨h1, h2⟩ | ⟨h1, b, h2, h3⟩), hb⟩
  · exact ⟨p, rfl, .inr ⟨h1, h2⟩, hb⟩
  · exact ⟨p, rfl, .inl ⟨h1, b, h2, h3.all⟩, hb⟩
theorem box2 (w : World) (t : TypeId) (c0 c1 : Value) : ∃ w1, w.alloc (.cells #[c0, c1] t) = w1 ∧ Below w.heap.size w w1 ∧ w.heap.size + 1 = w1.heap.size ∧ w1.heap[w.heap.size]? = some (.cells #[c0, c1] t (0, 0)) :=
  ⟨_, rfl, (Below.refl _ _).alloc (Nat.le_refl _) _, by simp, heap_alloc_new w _⟩
set_option maxRecDepth 100000 in
set_option maxHeartbeats 4000000 in
theorem made2_ok (l m : List V) (A B : Option Addr) (c d : Nat) (w : World) (S S' : Nat → Prop) (hl : IsS w S l (.slice A l.length c)) (hm : IsS w S' m (.slice B m.length d)) (hT : Lib.Utf8Tabs 1 2 w) (h1 : listE l = 0) (h2 : listE m = 0) :
    Calls Tryd.prog 51 #[.agg #[.slice A l.length c, .slice B m.length d]] w fun e w' => ∃ a b, e = .returned (.tuple #[.pointer (some ⟨a, 0, none⟩), .pointer (some ⟨b, 0, none⟩), .bool true]) ∧ IsE w' (fun _ => True) l a ∧ IsE w' (fun _ => True) m b ∧ Below w.heap.size w w' := by
  obtain ⟨w1, hw1, hB1, hsz, hb0⟩ := box2 w 78 (.slice A l.length c) (.slice B m.length d)
  obtain ⟨c0, c1⟩ := block2 hb0
  have HB0 := Lib.hid hb0
  have HO1 := dof_calls l _ w1 S (hl.below hB1) (tabs_below hT hB1)
  have HM := Lib.hid (hm.below hB1)
  have HT := Lib.hid (tabs_below hT hB1)
  have H2 := Lib.hid h2
  rw [h1] at HO1
  have HO1 := Lib.hid HO1
  clear hl hm hT h1 h2 hb0
  go_enter Tryd.func51, Tryd.ntmps51
  go_wp2_with (first
    | (go_at_call 13; refine HO1.out.mono ?_; rintro e w2 ⟨p, rfl, hp, hb2⟩; obtain ⟨b, rfl, hv⟩ := (hp.resolve_left (fun h => h.1 rfl)).2; have HV := Lib.hid hv.all; have k2 := blockB hb2 HB0.out; obtain ⟨d0, d1⟩ := block2 k2; have HO2 := dof_calls m _ w2 S' (HM.out.below hb2) (tabs_below HT.out hb2); rw [H2.out] at HO2; have HO2 := Lib.hid HO2; clear hp hv HO1 k2)
    | (go_at_call 13; refine HO2.out.mono ?_; rintro e w3 ⟨p3, rfl, hp, hb3'⟩; obtain ⟨b3, rfl, hv⟩ := (hp.resolve_left (fun h => h.1 rfl)).2; have HV3 := Lib.hid hv.all; have HVB := Lib.hid (HV.out.below hb3'); have hb3 := chain_then hB1 (chain_then hb2 hb3'); clear hp hv HO2))
  refine bodyPost_ret (v := .tuple #[.pointer (some ⟨b, 0, none⟩), .pointer (some ⟨b3, 0, none⟩), .bool true]) (by simp [results, Tryd.results51, go_sem]) rfl ⟨_, _, rfl, HVB.out, HV3.out, hb3⟩
set_option maxRecDepth 100000 in
set_option maxHeartbeats 4000000 in
theorem made2_bad (l m : List V) (A B : Option Addr) (c d : Nat) (w : World) (S S' : Nat → Prop) (hl : IsS w S l (.slice A l.length c)) (hm : IsS w S' m (.slice B m.length d)) (hT : Lib.Utf8Tabs 1 2 w) (h1 : ¬ (listE l = 0 ∧ listE m = 0)) :
    Calls Tryd.prog 51 #[.agg #[.slice A l.length c, .slice B m.length d]] w fun e w' => ∃ p q, e = .returned (.tuple #[.pointer p, .pointer q, .bool false]) ∧ Below w.heap.size w w' := by
  obtain ⟨w1, hw1, hB1, hsz, hb0⟩ := box2 w 78 (.slice A l.length c) (.slice B m.length d)
  obtain ⟨c0, c1⟩ := block2 hb0
  have HB0 := Lib.hid hb0
  have HO1 := of_out l _ w1 S (hl.below hB1) (tabs_below hT hB1)
  have HM := Lib.hid (hm.below hB1)
  have HT := Lib.hid (tabs_below hT hB1)
  obtain ⟨E1, hE1⟩ : ∃ E, listE l = E := ⟨_, rfl⟩
  obtain ⟨E2, hE2⟩ : ∃ E, listE m = E := ⟨_, rfl⟩
  rw [hE1] at HO1 h1
  rw [hE2] at h1
  have H2 := Lib.hid hE2
  have HO1 := Lib.hid HO1
  clear hl hm hT hb0 hE1 hE2
  by_cases e1 : E1 = 0
  · have e2 : E2 ≠ 0 := fun h => h1 ⟨e1, h⟩
    subst e1
    have d2 : (E2 == 0) = false := by simpa using e2
    clear h1 e2
    go_enter Tryd.func51, Tryd.ntmps51
    go_wp2_with (first
      | (go_at_call 13; refine HO1.out.mono ?_; rintro e w2 ⟨p, rfl, hp, hb2⟩; have k2 := blockB hb2 HB0.out; obtain ⟨d0, d1⟩ := block2 k2; have HO2 := of_out m _ w2 S' (HM.out.below hb2) (tabs_below HT.out hb2); rw [H2.out] at HO2; have HO2 := Lib.hid HO2; clear hp HO1 k2)
      | (go_at_call 13; refine HO2.out.mono ?_; rintro e w3 ⟨p3, rfl, hp, hb3'⟩; have hb3 := chain_then hB1 (chain_then hb2 hb3'); clear hp HO2))
    refine bodyPost_ret (v := .tuple #[.pointer p, .pointer p3, .bool false]) (by simp [results, Tryd.results51, go_sem]) rfl ⟨_, _, rfl, hb3⟩
  · have d2 : (E1 == 0) = false := by simpa using e1
    clear h1 e1
    go_enter Tryd.func51, Tryd.ntmps51
    go_wp2_with (first
      | (go_at_call 13; refine HO1.out.mono ?_; rintro e w2 ⟨p, rfl, hp, hb2⟩; have k2 := blockB hb2 HB0.out; obtain ⟨d0, d1⟩ := block2 k2; have HO2 := of_out m _ w2 S' (HM.out.below hb2) (tabs_below HT.out hb2); rw [H2.out] at HO2; have HO2 := Lib.hid HO2; clear hp HO1 k2)
      | (go_at_call 13; refine HO2.out.mono ?_; rintro e w3 ⟨p3, rfl, hp, hb3'⟩; have hb3 := chain_then hB1 (chain_then hb2 hb3'); clear hp HO2))
    refine bodyPost_ret (v := .tuple #[.pointer p, .pointer p3, .bool false]) (by simp [results, Tryd.results51, go_sem]) rfl ⟨_, _, rfl, hb3⟩
end Go.Proofs.YtjjbhnkplbjfeaaDoor
