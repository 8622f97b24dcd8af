/- An item of a deque; another one in its place. -/
import Derived.Test.YtjjbhnkplbjfeaaDoorCFnT

set_option linter.unusedVariables false
set_option linter.unusedSimpArgs false
namespace Go.Proofs.YtjjbhnkplbjfeaaDoor
open Go.RowKit Go.Shelf
attribute [local go_sem] lt_succ_of methItem methNode asItem asNode isNode noNode fieldNode fieldItem notNil

theorem enters_set (args : Array Value) (w : World) : (callFunc 78 args).run Tryd.prog w = .ok (.enter 78 args) w := enters_of Tryd.func78 (by kernel_rfl) rfl args w
theorem enters_at (args : Array Value) (w : World) : (callFunc 71 args).run Tryd.prog w = .ok (.enter 71 args) w := enters_of Tryd.func71 (by kernel_rfl) rfl args w
set_option maxRecDepth 100000 in
set_option maxHeartbeats 4000000 in
theorem set_do (X : Nat) (x y : V) (Ay : Option Addr) (cy : Nat) (w : World) (S : Nat → Prop) (hX : w.heap[X]? = some (.cells #[.int .i64 y.kind, .int .i64 y.num, .string y.text, .slice Ay y.items.length cy] 33 (0, 0)))
    (hy : IsV w (fun b => S b ∧ b < w.heap.size) y (.agg #[.int .i64 y.kind, .int .i64 y.num, .string y.text, .slice Ay y.items.length cy])) : DoIs 78 [.pointer (some ⟨X, 0, none⟩)] x y (fun _ => False) w S (fun _ _ => True) := by
  intro W vx S' hW hx _
  obtain ⟨_, Ax, cx, rfl, _, _⟩ := hx.eq
  obtain ⟨w1, hw1, hB1, hsz, hbx, hb0⟩ := boxes2 W (.int .i64 x.kind) (.int .i64 x.num) (.string x.text) (.slice Ax x.items.length cx) (.int .i64 0) (.int .i64 0) (.string ⟨#[]⟩) (.slice none 0 0) 33
  obtain ⟨z0, z1, z2, z3⟩ := block4 hb0
  have fz := free4 hb0
  have hk1 := blockB hB1 (blockB hW hX)
  obtain ⟨e0, e1, e2, e3⟩ := block4 hk1
  have hl1 := World.block_lt_of_cell? w1 _ e0
  have hl2 := World.block_lt_of_cell? w1 _ z0
  obtain ⟨w5, hw5, hk5, hs5, hot5, hB5⟩ := store_box (w := w1) hb0 (.int .i64 y.kind) (.int .i64 y.num) (.string y.text) (.slice Ay y.items.length cy)
  obtain ⟨f0, f1, f2, f3⟩ := block4 hk5
  have HY := Lib.hid hy
  clear hx hX hy hb0 hk1 hot5 hbx
  have hb5 : Below W.heap.size W w5 := hB1.trans (hB5 _ (by omega))
  show Calls Tryd.prog 78 #[.agg #[.int .i64 x.kind, .int .i64 x.num, .string x.text, .slice Ax x.items.length cx], .pointer (some ⟨X, 0, none⟩)] W _
  go_enter Tryd.func78, Tryd.ntmps78
  go_wp2_with fail
  refine bodyPost_ret (v := .agg #[.int .i64 y.kind, .int .i64 y.num, .string y.text, .slice Ay y.items.length cy]) (by simp [results, Tryd.results78, go_sem, f0, f1, f2, f3]) rfl ⟨_, rfl, HY.out.keep (Keeps.below_to (hW.trans (hb5.mono hW.size)) fun b h1 h2 => .inl h2), But.of hb5⟩
theorem set_lasts : Lasts (fun _ => False) (fun _ _ => True) := ⟨fun _ _ _ _ _ _ => trivial, fun _ _ _ _ _ => trivial⟩
/-- What At's function leaves behind: the item's copy, in blocks from n on. -/
def Copied (O : Nat) (x : V) (n : Nat) (w : World) : Prop := ∃ A c, w.heap[O]? = some (.cells #[.int .i64 x.kind, .int .i64 x.num, .string x.text, .slice A x.items.length c] 33 (0, 0)) ∧ IsV w (fun b => n ≤ b) x (.agg #[.int .i64 x.kind, .int .i64 x.num, .string x.text, .slice A x.items.length c])
theorem at_lasts (O : Nat) (x : V) : Lasts (fun b => b = O) (Copied O x) := by
  refine ⟨fun n w w' hs hb ⟨A, c, h1, h2⟩ => ⟨A, c, (hb O (Array.getElem?_eq_some_iff.1 h1).1 (.inl rfl)).trans h1, h2.keep fun b hlt h => ⟨h, hb b hlt (.inr h)⟩⟩, fun n m w hm ⟨A, c, h1, h2⟩ => ⟨A, c, h1, h2.keep (Keeps.weak fun b h => Nat.le_trans hm h)⟩⟩
set_option maxRecDepth 100000 in
set_option maxHeartbeats 4000000 in
theorem at_do (O : Nat) (x : V) (c0 c1 c2 c3 : Value) (w : World) (S : Nat → Prop) (hO : w.heap[O]? = some (.cells #[c0, c1, c2, c3] 33 (0, 0))) : DoIs 71 [.pointer (some ⟨O, 0, none⟩)] x x (fun b => b = O) w S (Copied O x) := by
  intro W vx S' hW hx hM
  obtain ⟨_, Ax, cx, rfl, _, _⟩ := hx.eq
  obtain ⟨w1, hw1, hB1, hsz, hbx, hb0⟩ := boxes2 W (.int .i64 x.kind) (.int .i64 x.num) (.string x.text) (.slice Ax x.items.length cx) (.int .i64 0) (.int .i64 0) (.string ⟨#[]⟩) (.slice none 0 0) 33
  obtain ⟨e0, e1, e2, e3⟩ := block4 hbx
  have hOW : O < W.heap.size := Nat.lt_of_lt_of_le (Array.getElem?_eq_some_iff.1 hO).1 hW.size
  have HX := Lib.hid hx
  have HO1 := Lib.hid (blockB hB1 (blockB hW hO))
  have HB0 := Lib.hid hb0
  have HBX := Lib.hid hbx
  have HM := Lib.hid hM
  have HOWN := Lib.hid (own_calls x _ w1 _ (hx.below hB1))
  clear hx hO hb0 hbx hM
  show Calls Tryd.prog 71 #[.agg #[.int .i64 x.kind, .int .i64 x.num, .string x.text, .slice Ax x.items.length cx], .pointer (some ⟨O, 0, none⟩)] W _
  go_enter Tryd.func71, Tryd.ntmps71
  go_wp2_with (go_at_call 65; refine HOWN.out.mono ?_; rintro e w2 ⟨v2, rfl, hv2, hb2⟩; obtain ⟨_, A2, c2, rfl, _, _⟩ := hv2.eq; have HV2 := Lib.hid hv2; have hk2 := blockB hb2 HO1.out; obtain ⟨o0, o1, o2, o3⟩ := block4 hk2; have oz := free4 hk2; obtain ⟨w3, hw3, hk3, hs3, hot3, hB3⟩ := store_box (w := w2) hk2 (.int .i64 x.kind) (.int .i64 x.num) (.string x.text) (.slice A2 x.items.length c2); have hbx3 := (hot3 W.heap.size (by omega)).trans (blockB hb2 HBX.out); have hb03 := (hot3 (W.heap.size + 1) (by omega)).trans (blockB hb2 HB0.out); obtain ⟨p0, p1, p2, p3⟩ := block4 hbx3; obtain ⟨r0, r1, r2, r3⟩ := block4 hb03; have rz := free4 hb03; have ho3 := World.block_lt_of_cell? w2 _ o0; obtain ⟨w4, hw4, hk4, hs4, hot4, hB4⟩ := store_box (w := w3) hb03 (.int .i64 x.kind) (.int .i64 x.num) (.string x.text) (.slice Ax x.items.length cx); obtain ⟨f0, f1, f2, f3⟩ := block4 hk4; have lr := World.block_lt_of_cell? w3 _ r0; have lp := World.block_lt_of_cell? w3 _ p0; have HH := Lib.hid (And.intro hk3 (And.intro hot3 hot4)); have HK2 := Lib.hid hk2; clear hv2 hk2 hk3 hot3 hot4 hbx3 hb03 hk4)
  refine bodyPost_ret (v := .agg #[.int .i64 x.kind, .int .i64 x.num, .string x.text, .slice Ax x.items.length cx]) (by simp [results, Tryd.results71, go_sem, f0, f1, f2, f3]) rfl ?_
  obtain ⟨hk3, hot3, hot4⟩ := HH.out
  have hs2 := hb2.size
  have hother : ∀ b, b < w2.heap.size → b ≠ O → b ≠ W.heap.size + 1 → w4.heap[b]? = w2.heap[b]? := fun b _ h1 h2 => (hot4 b h2).trans (hot3 b h1)
  have hkeep : ∀ b, b < W.heap.size → b ≠ O → w4.heap[b]? = W.heap[b]? := fun b h1 h2 => (hother b (by omega) h2 (by omega)).trans ((hb2.block b (by omega)).trans (hB1.block b h1))
  have hbw2 := below_then hB1 hB1.size hb2
  have q3 := hB3 0 (Nat.zero_le _)
  have q4 := hB4 0 (Nat.zero_le _)
  refine ⟨_, rfl, HX.out.keep fun b hb h => ⟨.inr (.inl h), hkeep b hb fun e => HM.out b e h⟩, ⟨q4.os.trans (q3.os.trans hbw2.os), q4.tape.trans (q3.tape.trans hbw2.tape), q4.output.trans (q3.output.trans hbw2.output), by omega, fun b h1 h2 => hkeep b h1 h2⟩, A2, c2, (hot4 O (by omega)).trans hk3, HV2.out.keep fun b hb (h : w1.heap.size ≤ b) => ⟨show W.heap.size ≤ b by omega, hother b hb (by omega) (by omega)⟩⟩
set_option maxRecDepth 100000 in
set_option maxHeartbeats 8000000 in
theorem dat_calls (l : List V) (p : Option Addr) (i : Int) (w : World) (S : Nat → Prop) (h : IsD w S l p) (hi0 : -9223372036854775808 ≤ i) (hi1 : i ≤ 9223372036854775807) :
    Calls Tryd.prog 19 #[.pointer p, .int .i64 i] w fun e w' => ∃ v, e = .returned (.tuple #[v, .int .i64 (nthV l i).2]) ∧ IsV w' (fun b => w.heap.size ≤ b) (nthV l i).1 v ∧ Below w.heap.size w w' := by
  obtain ⟨w1, hw1, hB1, hsz, hb0⟩ := box0 w 33 (.int .i64 0) (.int .i64 0) (.string ⟨#[]⟩) (.slice none 0 0)
  obtain ⟨e0, e1, e2, e3⟩ := block4 hb0
  have fz := free4 hb0
  have hl1 : w.heap.size < w1.heap.size := by omega
  have HLN := Lib.hid (len_calls l p w1 S (h.below hB1))
  by_cases hneg : i < 0
  · have hz : nthV l i = (V.zero, 5) := by unfold nthV; rw [if_neg (by omega)]
    rw [hz]
    have h2 : decide (i < 0) = true := by simpa using hneg
    clear hb0 h hz
    go_enter Tryd.func19, Tryd.ntmps19
    go_wp2_with fail
    refine bodyPost_ret (v := .tuple #[.agg #[.int .i64 0, .int .i64 0, .string ⟨#[]⟩, .slice none 0 0], .int .i64 5]) (by simp [results, Tryd.results19, go_sem, e0, e1, e2, e3]) rfl ⟨_, rfl, zero_is _ _, ?_⟩
    repeat refine Below.setCell ?_ (by simp) _
    exact hB1
  · obtain ⟨j, rfl⟩ : ∃ j : Nat, i = (j : Int) := ⟨i.toNat, by omega⟩
    have h2 : decide ((j : Int) < 0) = false := by simp
    by_cases hj : j < l.length
    · have hz : nthV l (j : Int) = (itemAt l j, 0) := by unfold nthV; rw [if_pos (by omega)]; simp
      rw [hz]
      have hj2 : (j : Int) < (l.length : Int) := by omega
      have hj3 : ¬ (l.length : Int) ≤ (j : Int) := by omega
      obtain ⟨hl65, ⟨rfl, e⟩ | ⟨b, t, q, rfl, hs, c0, hf, ho, hi⟩⟩ := h
      · rw [e] at hj; simp at hj
      obtain ⟨w2, hw2, hB2, hsz2, hb2⟩ := box0 w1 33 (.int .i64 0) (.int .i64 0) (.string ⟨#[]⟩) (.slice none 0 0)
      have hB12 := below_then hB1 hB1.size hB2
      have d0 := cellB hB12 c0
      have hbl := World.block_lt_of_cell? w2 _ d0
      have HCH := Lib.hid (fchange_calls t 0 j (itemAt l j) q 71 [.pointer (some ⟨w1.heap.size, 0, none⟩)] (fun b => b = w1.heap.size) w2 (fun b => S b ∧ b < w.heap.size) (Copied w1.heap.size (itemAt l j)) (hf.keep (Keeps.below_to hB12 fun b h1 h2 => ⟨h2, h1⟩)) ho (by rw [hi]; exact hj) (by rw [hi]; omega)
        (by rw [hi]; exact at_do _ _ _ _ _ _ _ _ hb2) (at_lasts _ _) (fun b e => ⟨fun h => by have := h.2; omega, by omega⟩) enters_at)
      have HB0 := Lib.hid hb0
      have hs12 := hB12.size
      clear hf hs c0 hb0 hi ho hb2 hz hneg hj hl65
      go_enter Tryd.func19, Tryd.ntmps19
      go_wp2_with (first
        | (go_at_call 33; refine HLN.out.mono ?_; rintro e w3 ⟨rfl, rfl⟩)
        | (go_at_call 70; refine HCH.out.mono ?_; rintro e w3 ⟨p3, rfl, _, hb3, A3, c3, hk3, hv3⟩; obtain ⟨o0, o1, o2, o3⟩ := block4 hk3; have hk0 := (hb3.block w.heap.size (by omega) (by omega)).trans (blockB hB2 HB0.out); obtain ⟨r0, r1, r2, r3⟩ := block4 hk0; have rz := free4 hk0; obtain ⟨w4, hw4, hk4, hs4, hot4, hB4⟩ := store_box (w := w3) hk0 (.int .i64 (itemAt l j).kind) (.int .i64 (itemAt l j).num) (.string (itemAt l j).text) (.slice A3 (itemAt l j).items.length c3); obtain ⟨f0, f1, f2, f3⟩ := block4 hk4; have lo := World.block_lt_of_cell? w3 _ o0; have lr := World.block_lt_of_cell? w3 _ r0; have HH := Lib.hid (And.intro hb3 (And.intro hv3 hot4)); clear hb3 hk3 hv3 hk0 hk4 hot4))
      refine bodyPost_ret (v := .tuple #[.agg #[.int .i64 (itemAt l j).kind, .int .i64 (itemAt l j).num, .string (itemAt l j).text, .slice A3 (itemAt l j).items.length c3], .int .i64 0]) (by simp [results, Tryd.results19, go_sem, f0, f1, f2, f3]) rfl ?_
      obtain ⟨hb3, hv3, hot4⟩ := HH.out
      have hs3 := hb3.size
      refine ⟨_, rfl, hv3.keep fun b hb (h : w2.heap.size ≤ b) => ⟨show w.heap.size ≤ b by omega, hot4 b (by omega)⟩, ?_⟩
      exact (hB12.trans (hb3.below hB12.size (fun b (e : b = w1.heap.size) => by omega))).trans (hB4 _ (Nat.le_refl _))
    · have hz : nthV l (j : Int) = (V.zero, 5) := by unfold nthV; rw [if_neg (by omega)]
      rw [hz]
      have hj2 : ¬ (j : Int) < (l.length : Int) := by omega
      have hj3 : (l.length : Int) ≤ (j : Int) := by omega
      clear hb0 h hz hneg hj
      go_enter Tryd.func19, Tryd.ntmps19
      go_wp2_with (go_at_call 33; refine HLN.out.mono ?_; rintro e w3 ⟨rfl, rfl⟩)
      refine bodyPost_ret (v := .tuple #[.agg #[.int .i64 0, .int .i64 0, .string ⟨#[]⟩, .slice none 0 0], .int .i64 5]) (by simp [results, Tryd.results19, go_sem, e0, e1, e2, e3]) rfl ⟨_, rfl, zero_is _ _, ?_⟩
      repeat refine Below.setCell ?_ (by simp) _
      exact hB1
end Go.Proofs.YtjjbhnkplbjfeaaDoor
