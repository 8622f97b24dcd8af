/- Transients: the last item taken away; sealed. -/
import Derived.Test.YtaeldfnihocljaaDoorCTvE
import Derived.Test.YtaeldfnihocljaaDoorCVPush

set_option linter.unusedVariables false
set_option linter.unusedSimpArgs false
namespace Go.Proofs.YtaeldfnihocljaaDoor
open Go.RowKit
attribute [local go_sem] lt_succ_of

theorem After.vec2 {w w' : World} {R : Nat → Prop} {k : Nat} {x : Tr} (hx : IsTr w R k x) (hR : ∀ b, R b → b < w.heap.size) (hB : But x.own w w') {S' : Nat → Prop} {l' : List V} {h' b' : Nat}
    (blk : w'.heap[x.t]? = some (.cells #[.bool x.op, .pointer (some ⟨b', 0, none⟩), x.vw] 105 (0, 0))) (ho : ∀ b, x.vw.ownBlock = some b → w'.heap[b]? = w.heap[b]?) (hv : IsR w' S' l' h' b')
    (hS : ∀ b, S' b → (¬ x.own b ∧ ¬ R b) ∨ w.heap.size ≤ b) (hs : (l' ++ x.wt).length ≤ 65536) : After w R k x (l' ++ x.wt) w' := by
  refine ⟨hB, { x with m := l', h := h', b := b' }, ⟨blk, ?_, ?_, hx.len, hs, hx.right, hx.apart, hx.free, hx.high⟩, rfl, rfl, rfl, fun b h => .inl h⟩
  · refine hv.keep (Keeps.weak fun b hb => ?_)
    rcases hS b hb with h | h
    · exact h
    · exact ⟨fun h3 => by have := hx.own_lt h3; omega, fun h3 => by have := hR b h3; omega⟩
  · exact hx.wait.keep (fun b hb h => ⟨h, hB.block b hb h.1⟩) ho
theorem vec_boxed {w w1 w3 : World} {R : Nat → Prop} {k : Nat} {x : Tr} {l' : List V} {h' b' : Nat} {X : V} {c0 c1 c2 c3 d0 d1 d2 d3 : Value} {ty : TypeId} (hx : IsTr w R k x) (hR : ∀ b, R b → b < w.heap.size) (hB1 : Below w.heap.size w w1) (hsz : w.heap.size + 1 = w1.heap.size) (hb3 : Below w1.heap.size w1 w3)
    (hb : w3.heap[w.heap.size]? = some (.cells #[c0, c1, c2, c3] ty (0, 0))) (hv : IsR w3 (Old w1 fun b => (¬ x.own b ∧ ¬ R b) ∧ b < w.heap.size) l' h' b') (hs : (l' ++ x.wt).length ≤ 65536) (hX : IsV w3 (fun b => w1.heap.size ≤ b) X (.agg #[d0, d1, d2, d3])) (o : Obj) :
    ∃ w8, ((((w3.setCell ⟨x.t, 1, none⟩ (.pointer (some ⟨b', 0, none⟩))).setCell ⟨w.heap.size, 0, none⟩ d0).setCell ⟨w.heap.size, 1, none⟩ d1).setCell ⟨w.heap.size, 2, none⟩ d2).setCell ⟨w.heap.size, 3, none⟩ d3 = w8 ∧ w8.cell? ⟨w.heap.size, 0, none⟩ = some d0 ∧ w8.cell? ⟨w.heap.size, 1, none⟩ = some d1 ∧ w8.cell? ⟨w.heap.size, 2, none⟩ = some d2 ∧ w8.cell? ⟨w.heap.size, 3, none⟩ = some d3 ∧
      After w R k x (l' ++ x.wt) (w8.alloc o) ∧ IsV (w8.alloc o) (fun _ => True) X (.agg #[d0, d1, d2, d3]) := by
  have hxt : x.t < w.heap.size := hx.own_lt (.inl rfl)
  have hB := below_then hB1 hB1.size hb3
  have hs3 := hb3.size
  obtain ⟨w8, hw8, hb8, hs8, hk8, _⟩ := store_box (w := w3.setCell ⟨x.t, 1, none⟩ (.pointer (some ⟨b', 0, none⟩))) (blockother hb (p := ⟨x.t, 1, none⟩) (by show w.heap.size ≠ x.t; omega) (.pointer (some ⟨b', 0, none⟩))) d0 d1 d2 d3
  obtain ⟨q0, q1, q2, q3⟩ := block4 hb8
  have hsz8 : w8.heap.size = w3.heap.size := by rw [hs8]; simp
  have hoth : ∀ b, b ≠ w.heap.size → b ≠ x.t → b < w3.heap.size → (w8.alloc o).heap[b]? = w3.heap[b]? := fun b h1 h2 h3 => by
    rw [Below.heap_alloc _ _ _ (by omega), hk8 b h1, Below.heap_setCell _ _ _ _ h2]
  have hbut8 : But x.own w w8 := by
    rw [← hw8]
    refine ((((((But.of hB).set (.inr (.inl rfl)) _).set ?_ _).set ?_ _).set ?_ _).set ?_ _) <;> exact .inl (Nat.le_refl _)
  have hbut : But x.own w (w8.alloc o) := hbut8.trans (But.of ((Below.refl _ _).alloc (Nat.le_refl _) _))
  refine ⟨w8, hw8, q0, q1, q2, q3, ?_, ?_⟩
  · refine After.vec2 hx hR hbut ?_ ?_ (hv.keep (S' := Old w1 fun b => (¬ x.own b ∧ ¬ R b) ∧ b < w.heap.size) fun b hb hs => ⟨hs, hoth b ?_ ?_ hb⟩) ?_ hs
    · rw [Below.heap_alloc _ _ _ (by omega), hk8 _ (by omega)]
      exact block3set ((hB.block _ hxt).trans hx.blk)
    · intro b h1
      have h2 := hx.own_lt (.inr h1)
      rw [hoth b (by omega) (fun e => hx.apart (e ▸ h1)) (by omega), hB.block b h2]
    · rcases hs with ⟨hs, _⟩ | hs
      · omega
      · omega
    · rcases hs with ⟨hs, _⟩ | hs
      · exact fun e => hs.1.1 (.inl e)
      · omega
    · intro b hs
      rcases hs with ⟨hs, _⟩ | hs
      · exact .inl hs.1
      · exact .inr (by omega)
  · exact hX.keep fun b hb hs => ⟨trivial, hoth b (by omega) (by omega) hb⟩
theorem wait_boxed {w w1 : World} {R : Nat → Prop} {k : Nat} {x : Tr} {A : Option Addr} {cap n : Nat} {X : V} {c0 c1 c2 c3 d0 d1 d2 d3 : Value} {ty : TypeId} (hx : IsTr w R k x) (hR : ∀ b, R b → b < w.heap.size) (hB1 : Below w.heap.size w w1) (hsz : w.heap.size + 1 = w1.heap.size)
    (hb : w1.heap[w.heap.size]? = some (.cells #[c0, c1, c2, c3] ty (0, 0))) (hv : x.vw = .slice A x.wt.length cap) (hn : n ≤ x.wt.length) (hX : IsV w1 (fun b => ¬ x.own b ∧ b < w.heap.size) X (.agg #[d0, d1, d2, d3])) (o : Obj) :
    ∃ w8, ((((w1.setCell ⟨x.t, 2, none⟩ (.slice A n cap)).setCell ⟨w.heap.size, 0, none⟩ d0).setCell ⟨w.heap.size, 1, none⟩ d1).setCell ⟨w.heap.size, 2, none⟩ d2).setCell ⟨w.heap.size, 3, none⟩ d3 = w8 ∧ w8.cell? ⟨w.heap.size, 0, none⟩ = some d0 ∧ w8.cell? ⟨w.heap.size, 1, none⟩ = some d1 ∧ w8.cell? ⟨w.heap.size, 2, none⟩ = some d2 ∧ w8.cell? ⟨w.heap.size, 3, none⟩ = some d3 ∧
      After w R k x (x.m ++ x.wt.take n) (w8.alloc o) ∧ IsV (w8.alloc o) (fun _ => True) X (.agg #[d0, d1, d2, d3]) := by
  have hxt : x.t < w.heap.size := hx.own_lt (.inl rfl)
  obtain ⟨w8, hw8, hb8, hs8, hk8, _⟩ := store_box (w := w1.setCell ⟨x.t, 2, none⟩ (.slice A n cap)) (blockother hb (p := ⟨x.t, 2, none⟩) (by show w.heap.size ≠ x.t; omega) (.slice A n cap)) d0 d1 d2 d3
  obtain ⟨q0, q1, q2, q3⟩ := block4 hb8
  have hsz8 : w8.heap.size = w1.heap.size := by rw [hs8]; simp
  have hoth : ∀ b, b ≠ x.t → b < w.heap.size → (w8.alloc o).heap[b]? = w1.heap[b]? := fun b h2 h3 => by
    rw [Below.heap_alloc _ _ _ (by omega), hk8 b (by omega), Below.heap_setCell _ _ _ _ h2]
  have hbut8 : But x.own w w8 := by
    rw [← hw8]
    refine ((((((But.of hB1).set (.inr (.inl rfl)) _).set ?_ _).set ?_ _).set ?_ _).set ?_ _) <;> exact .inl (Nat.le_refl _)
  have hbut : But x.own w (w8.alloc o) := hbut8.trans (But.of ((Below.refl _ _).alloc (Nat.le_refl _) _))
  have hcut : OwnL w 0 (fun b => ¬ x.own b ∧ ¬ R b) (x.wt.take n) (.slice A n cap) := OwnL.cut (hv ▸ hx.wait) n hn
  have hoA : ∀ b, (Value.slice A n cap).ownBlock = some b → x.vw.ownBlock = some b := by
    intro b h
    rw [hv]
    cases A with
    | none => simp [Value.ownBlock] at h
    | some a => simpa [Value.ownBlock] using h
  refine ⟨w8, hw8, q0, q1, q2, q3, ?_, ?_⟩
  · refine After.wait hx hR hbut ?_ (hcut.keep (fun b hb hs => ⟨hs, hbut.block b hb hs.1⟩) ?_) ?_ ?_ ?_ (fun b h => .inl (hoA b h))
    · rw [Below.heap_alloc _ _ _ (by omega), hk8 _ (by omega)]
      have := blockset ((hB1.block _ hxt).trans hx.blk) 2 (.slice A n cap)
      simpa using this
    · intro b h1
      have h2 := hx.own_lt (.inr (hoA b h1))
      rw [hoth b (fun e => hx.apart (e ▸ hoA b h1)) h2, hB1.block b h2]
    · rw [List.length_take]
      have := hx.len
      omega
    · have := hx.small
      unfold Tr.all at this
      rw [List.length_append] at this
      rw [List.length_append, List.length_take]
      omega
    · exact fun y hy => hx.right y (List.mem_of_mem_take hy)
  · exact hX.keep fun b hb hs => ⟨trivial, hoth b (fun e => hs.1 (.inl e)) hs.2⟩
set_option maxRecDepth 100000 in
set_option maxHeartbeats 8000000 in
theorem tpop_calls (w : World) (R : Nat → Prop) (k : Nat) (x : Tr) (hx : IsTr w R k x) (ho : x.op = true) (hR : ∀ b, R b → b < w.heap.size) :
    Calls Tryd.prog 39 #[.pointer (some ⟨x.t, 0, none⟩)] w fun e w' => ∃ v, e = .returned (.tuple #[v, .int .i64 (popE x.all)]) ∧ After w R k x x.all.dropLast w' ∧ IsV w' (fun _ => True) (popX x.all) v := by
  obtain ⟨w1, hw1, hB1, hsz, hb0⟩ := box0 w 31 (.int .i64 0) (.int .i64 0) (.string ⟨#[]⟩) (.slice none 0 0)
  obtain ⟨e0, e1, e2, e3⟩ := block4 hb0
  have fz := free4 hb0
  have hx1 := hx.below hB1
  obtain ⟨c0, c1, c2, hl, hfr⟩ := hx1.cells
  obtain ⟨A, cap, hv, hcap⟩ := hx1.form
  rw [ho] at c0
  rw [hv] at c2
  have HX0 := Lib.hid hx
  have hxt : x.t < w.heap.size := hx.own_lt (.inl rfl)
  have hne := Nat.ne_of_lt hxt
  have hne' := Ne.symm hne
  have HR := Lib.hid hR
  have HX := Lib.hid hx1
  have HV := Lib.hid hv
  have HB0 := Lib.hid hb0
  have hs1 := hB1.size
  have hS := sealed_calls w1 R k x hx1
  rw [ho] at hS
  have HS := Lib.hid hS
  have hlen : x.wt.length ≤ 65536 := by have := hx.small; unfold Tr.all at this; rw [List.length_append] at this; omega
  have hall : x.all.length = x.m.length + x.wt.length := List.length_append
  by_cases hw0 : x.wt.length = 0
  · have hwt : x.wt = [] := List.eq_nil_of_length_eq_zero hw0
    have ha : x.all = x.m := by unfold Tr.all; rw [hwt, List.append_nil]
    rw [ha]
    rw [hw0] at c2
    have hN := vpop_calls x.m x.h x.b w1 _ (hx.vec.keep (S' := fun b => (¬ x.own b ∧ ¬ R b) ∧ b < w.heap.size) (Keeps.below_to hB1 fun b h1 h2 => ⟨h2, h1⟩))
    have HWT := Lib.hid hwt
    by_cases hm0 : x.m = []
    · have hE : popE x.m = 6 := by rw [hm0]; rfl
      rw [hE] at hN ⊢
      have HN := Lib.hid hN
      have HM0 := Lib.hid hm0
      have HALL := Lib.hid ha
      clear hx hx1 ho hv hb0 hS hR hlen hall hw0 hwt ha hN hE hm0
      go_enter Tryd.func39, Tryd.ntmps39
      go_wp2_with (first | (go_at_call 59; refine HS.out.mono ?_; rintro e w2 ⟨rfl, rfl⟩) | (go_at_call 21; refine HN.out.mono ?_; rintro e w3 ⟨p, v, rfl, hv, hcase, hb3⟩; obtain rfl := (hcase.resolve_right (fun h => h.1 HM0.out)).2; obtain ⟨_, Ar, cr, rfl, _, _⟩ := hv.eq; have HV3 := Lib.hid hv; clear hv hcase; have g1 := cellB hb3 c1; have hf3 := free4 (blockB hb3 HX.out.blk); have hl3 := World.block_lt_of_cell? w3 _ g1; obtain ⟨q0, q1, q2, q3⟩ := block4 (blockB hb3 HB0.out); have HB3 := Lib.hid (blockB hb3 HB0.out); have qf := free4 (blockB hb3 HB0.out); have hl4 := World.block_lt_of_cell? w3 _ q0; have hn3 := Nat.ne_of_lt hl3; have hn4 := Nat.ne_of_lt hl4; have hs3 := hb3.size))
      obtain ⟨w8, hw8, r0, r1, r2, r3, hv8, hB8⟩ := store_isv HB3.out HV3.out (by omega) w rfl (below_then hB1 hB1.size hb3)
      rw [hw8]
      have hl8 := World.block_lt_of_cell? w8 _ r0
      refine bodyPost_ret (v := .tuple #[.agg #[_, _, _, _], .int .i64 _]) (by simp [results, Tryd.results39, go_sem, r0, r1, r2, r3, hl8]) rfl ⟨_, rfl, ?_, (hv8.keep (Keeps.alloc _)).keep (Keeps.weak fun _ _ => trivial)⟩
      have := After.same HX0.out (hB8.alloc hB8.size (.cells #[.int .i64 (popX x.m).kind, .int .i64 (popX x.m).num, .string (popX x.m).text, .slice Ar (popX x.m).items.length cr] 31))
      rw [HALL.out, HM0.out] at this
      rw [HM0.out]
      exact this
    · have hE : popE x.m = 0 := by unfold popE; rw [if_neg (fun e => hm0 (List.eq_nil_of_length_eq_zero e))]
      rw [hE] at hN ⊢
      have HN := Lib.hid hN
      have HM0 := Lib.hid hm0
      have HALL := Lib.hid ha
      clear hx hx1 ho hv hb0 hS hR hlen hall hw0 hwt ha hN hE hm0
      go_enter Tryd.func39, Tryd.ntmps39
      go_wp2_with (first | (go_at_call 59; refine HS.out.mono ?_; rintro e w2 ⟨rfl, rfl⟩) | (go_at_call 21; refine HN.out.mono ?_; rintro e w3 ⟨p, v, rfl, hv, hcase, hb3⟩; obtain ⟨h', b', rfl, hv5⟩ := (hcase.resolve_left (fun h => HM0.out h.1)).2; have HV5 := Lib.hid hv5; clear hv5; obtain ⟨_, Ar, cr, rfl, _, _⟩ := hv.eq; have HV3 := Lib.hid hv; clear hv hcase; have g1 := cellB hb3 c1; have hf3 := free4 (blockB hb3 HX.out.blk); have hl3 := World.block_lt_of_cell? w3 _ g1; obtain ⟨q0, q1, q2, q3⟩ := block4 (blockB hb3 HB0.out); have HB3 := Lib.hid (blockB hb3 HB0.out); have qf := free4 (blockB hb3 HB0.out); have hl4 := World.block_lt_of_cell? w3 _ q0; have hn3 := Nat.ne_of_lt hl3; have hn4 := Nat.ne_of_lt hl4; have hs3 := hb3.size))
      obtain ⟨w8, hw8, r0, r1, r2, r3, ha8, hv8⟩ := vec_boxed HX0.out HR.out hB1 hsz hb3 HB3.out HV5.out (by have := HX0.out.small; rw [HALL.out] at this; rw [HWT.out, List.append_nil, List.length_dropLast]; omega) HV3.out (.cells #[.int .i64 (popX x.m).kind, .int .i64 (popX x.m).num, .string (popX x.m).text, .slice Ar (popX x.m).items.length cr] 31)
      rw [hw8]
      have hl8 := World.block_lt_of_cell? w8 _ r0
      rw [HWT.out, List.append_nil] at ha8
      exact bodyPost_ret (v := .tuple #[.agg #[_, _, _, _], .int .i64 _]) (by simp [results, Tryd.results39, go_sem, r0, r1, r2, r3, hl8]) rfl ⟨_, rfl, ha8, hv8⟩
  · obtain ⟨n, hn⟩ : ∃ n, x.wt.length = n + 1 := ⟨x.wt.length - 1, by omega⟩
    have hE : popE x.all = 0 := by unfold popE; rw [if_neg (by omega)]
    have hP : popX x.all = itemAt x.wt n := by
      unfold popX
      rw [show (x.all.length : Int) - 1 = ((x.m.length + n : Nat) : Int) by omega]
      unfold Tr.all
      rw [nthV_right _ _ (by omega) (by omega)]
      simp
    have hD : x.all.dropLast = x.m ++ x.wt.take n := by
      unfold Tr.all
      rw [List.dropLast_append_of_ne_nil (by intro e; rw [e] at hn; simp at hn), List.dropLast_eq_take, hn]
      rfl
    rw [hE, hP, hD]
    obtain ⟨g, cap', A', c', hvw, hc', _, hgl0, f0', f1', f2', f3', hxi0⟩ := hx.wait.item (i := n) (by omega)
    have f0 := cellB hB1 f0'
    have f1 := cellB hB1 f1'
    have f2 := cellB hB1 f2'
    have f3 := cellB hB1 f3'
    have hgl := Nat.lt_of_lt_of_le hgl0 hB1.size
    have hxi := hxi0.keep (S' := fun b => ¬ x.own b ∧ b < w.heap.size) (Keeps.below_to hB1 fun b h1 h2 => ⟨h2.1.1, h1⟩)
    clear f0' f1' f2' f3' hgl0 hxi0
    have e1' := hv.symm.trans hvw
    simp only [Value.slice.injEq, true_and] at e1'
    obtain ⟨rfl, rfl⟩ := e1'
    have hpl := plus0 g
    have HXI := Lib.hid hxi
    have HN := Lib.hid hn
    rw [hn] at c2
    have hq1 : (n : Int) < ((n + 1 : Nat) : Int) := by omega
    have hq2 : (n : Int) < (n : Int) + 1 := by omega
    have hq3 : 0 < (n : Int) + 1 := by omega
    have hq4 : wrap64 (n : Int) = (n : Int) := IntWalk.wrap64_in _ (by omega)
    have hcn : n ≤ cap := by rw [hn] at hcap; exact Nat.le_trans (Nat.le_succ n) hcap
    have hn5 := Nat.ne_of_lt hl
    have hbl : w.heap.size < w1.heap.size := by omega
    have hn6 := Nat.ne_of_lt hbl
    clear hx hx1 ho hv hb0 hS hR hlen hall hw0 hE hP hD hxi hn
    go_enter Tryd.func39, Tryd.ntmps39
    go_wp2_with (first | (go_at_call 59; refine HS.out.mono ?_; rintro e w2 ⟨rfl, rfl⟩))
    obtain ⟨w8, hw8, r0, r1, r2, r3, ha8, hv8⟩ := wait_boxed HX0.out HR.out hB1 hsz HB0.out HV.out (n := n) (by rw [HN.out]; omega) HXI.out (.cells #[.int .i64 (itemAt x.wt n).kind, .int .i64 (itemAt x.wt n).num, .string (itemAt x.wt n).text, .slice A' (itemAt x.wt n).items.length c'] 31)
    rw [hw8]
    have hl8 := World.block_lt_of_cell? w8 _ r0
    exact bodyPost_ret (v := .tuple #[.agg #[_, _, _, _], .int .i64 _]) (by simp [results, Tryd.results39, go_sem, r0, r1, r2, r3, hl8]) rfl ⟨_, rfl, ha8, hv8⟩
end Go.Proofs.YtaeldfnihocljaaDoor
