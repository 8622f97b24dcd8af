/- Rows of values: a store, a cut, clear. slices.CompactFunc of values. -/
import Derived.Deep.QuietTactic
import Derived.BigQuiet
import Derived.StillTailTactics
import Derived.Lib.SliceRun
import Derived.BigFrame
import Derived.Test.YtoiipdknamgcmaaGreatDoorCSoA
/- Rows of values: a store, a cut, clear. -/
set_option linter.unusedVariables false
set_option linter.unusedSimpArgs false
namespace Go.Proofs.YtoiipdknamgcmaaGreatDoor
open Go.RowKit Go.Shelf
attribute [local go_sem] lt_succ_of

set_option maxRecDepth 100000 in
theorem equal_calls (x y : V) (vx vy : Value) (w : World) (S S' : Nat → Prop) (hx : IsV w S x vx) (hy : IsV w S' y vy) :
    Calls Tryz.prog 83 #[vx, vy] w fun e w' => e = .returned (.bool (decide (cmpV x y = 0))) ∧ Below w.heap.size w w' := by
  obtain ⟨hbx, A, ca, rfl, hca, hA⟩ := hx.eq
  obtain ⟨hby, B, cb, rfl, hcb, hB⟩ := hy.eq
  obtain ⟨w1, hw1, hB1, hsz, hb0, hb1⟩ := boxes2 w (.int .i64 x.kind) (.int .i64 x.num) (.string x.text) (.slice A x.items.length ca) (.int .i64 y.kind) (.int .i64 y.num) (.string y.text) (.slice B y.items.length cb) 24
  obtain ⟨a0, a1, a2, a3⟩ := block4 hb0
  obtain ⟨e0, e1, e2, e3⟩ := block4 hb1
  have HC := Lib.hid (compareq_calls x y _ _ w1 S S' (hx.below hB1) (hy.below hB1))
  obtain ⟨C, hC⟩ : ∃ C, cmpV x y = C := ⟨_, rfl⟩
  rw [hC] at HC ⊢
  clear hx hy hA hB hC
  by_cases hz : C = 0
  · subst hz
    go_enter Tryz.func83, Tryz.ntmps83
    go_wp2_with (go_at_call 80; refine HC.out.mono ?_; rintro e w2 ⟨rfl, hq⟩; have hb := below_then hB1 hB1.size hq.below)
    go_ret
    exact ⟨rfl, hb⟩
  · have hz2 : (C == 0) = false := by rw [beq_eq_false_iff_ne]; exact hz
    rw [decide_eq_false hz]
    clear hz
    go_enter Tryz.func83, Tryz.ntmps83
    go_wp2_with (go_at_call 80; refine HC.out.mono ?_; rintro e w2 ⟨rfl, hq⟩; have hb := below_then hB1 hB1.size hq.below)
    go_ret
    exact ⟨rfl, hb⟩
theorem RowV.keep {w w' : World} {g : Nat} {S : Nat → Prop} {l : List V} (h : RowV w g S l) (hS : ∀ b, S b → b ≠ g) (hb : Below w.heap.size w w') : RowV w' g S l := by
  obtain ⟨c, h1, h2⟩ := h
  refine ⟨c, h1.keep (Keeps.below hb), fun j u hj => ?_⟩
  obtain ⟨h3, h4⟩ := h2 j u hj
  have hlt : g < w.heap.size := World.block_lt_of_cell? w _ h3
  refine ⟨cellB hb h3, ?_⟩
  rw [← h4]
  unfold World.frozen?
  rw [hb.block g hlt]
theorem RowV.la {w : World} {g : Nat} {S : Nat → Prop} {l : List V} (h : RowV w g S l) : LA w (fun b => S b ∨ b = g) l (some ⟨g, 0, none⟩) := by
  obtain ⟨c, h1, h2⟩ := h
  refine .inr ⟨_, rfl, CsL.lc (.inr rfl) (h1.keep (Keeps.weak fun b hb => .inl hb)) fun j u hj => ?_⟩
  rw [Nat.zero_add, plus0]
  exact (h2 j u hj).1
theorem CsL.split {w : World} {S : Nat → Prop} : ∀ {l : List V} {xs : List Value} (i : Nat), CsL w S l xs → i < l.length → ∃ p a b c d r, xs = p ++ a :: b :: c :: d :: r ∧ p.length = i * 4 ∧ CsL w S (l.take i) p ∧ CsL w S (l.drop (i + 1)) r
  | [], _, i, _, h => by simp at h
  | x :: l, xs, 0, ⟨y, z, e, h1, h2⟩, _ => by
    obtain ⟨A, cap, hy⟩ := h1.cells
    subst hy
    exact ⟨[], _, _, _, _, z, by rw [e]; rfl, rfl, by simp [CsL], by simpa using h2⟩
  | x :: l, xs, i + 1, ⟨y, z, e, h1, h2⟩, h => by
    obtain ⟨p, a, b, c, d, r, he, hp, h3, h4⟩ := CsL.split i h2 (by simpa using h)
    refine ⟨y ++ p, a, b, c, d, r, by rw [e, he, List.append_assoc], by rw [List.length_append, h1.length, hp]; omega, ?_, by simpa using h4⟩
    rw [List.take_succ_cons]
    exact ⟨y, p, rfl, h1, h3⟩
theorem CsL.nth {w : World} {S : Nat → Prop} : ∀ {l : List V} {xs : List Value} (i : Nat), CsL w S l xs → i < l.length → ∃ p a r, xs = p ++ (a ++ r) ∧ p.length = i * 4 ∧ VC w S (itemAt l i) a
  | x :: l, xs, 0, ⟨a, b, e, ha, hb⟩, _ => ⟨[], a, b, by simpa using e, rfl, ha⟩
  | x :: l, xs, i + 1, ⟨a, b, e, ha, hb⟩, hi => by
    obtain ⟨p, a', r, e', hp, hv⟩ := CsL.nth i hb (by simpa using hi)
    refine ⟨a ++ p, a', r, by rw [e, e']; simp, ?_, ?_⟩
    · have := ha.length
      rw [List.length_append, hp, this]; omega
    · simpa [itemAt] using hv
theorem CsL.cut {w : World} {S : Nat → Prop} : ∀ {l : List V} {xs : List Value} (n : Nat), CsL w S l xs → CsL w S (l.take n) (xs.take (n * 4))
  | [], _, n, h => by cases h; simp [CsL]
  | x :: l, xs, 0, _ => by simp [CsL]
  | x :: l, xs, n + 1, ⟨y, z, e, h1, h2⟩ => by
    subst e
    rw [List.take_succ_cons]
    refine ⟨y, z.take (n * 4), ?_, h1, CsL.cut n h2⟩
    rw [List.take_append, h1.length, List.take_of_length_le (by rw [h1.length]; omega)]
    congr 2
    omega
/-- The cells of a row, and nothing of what they mean. -/
def RowC (w : World) (g : Nat) (c : List Value) : Prop := ∀ (j : Nat) (u : Value), c[j]? = some u → w.cell? ⟨g, j, none⟩ = some u ∧ w.frozen? ⟨g, j, none⟩ = false
theorem RowC.set {w : World} {g : Nat} {c : List Value} (h : RowC w g c) {i : Nat} (hi : i < c.length) (v : Value) : RowC (w.setCell ⟨g, i, none⟩ v) g (c.set i v) := by
  intro j u hj
  rw [World.frozen?_setCell]
  by_cases e : i = j
  · subst e
    rw [List.getElem?_set_self hi] at hj
    injection hj with hj
    subst hj
    obtain ⟨h1, h2⟩ := h i c[i] (List.getElem?_eq_getElem hi)
    exact ⟨World.cell?_setCell_same _ _ _ h1, h2⟩
  · rw [List.getElem?_set_ne e] at hj
    obtain ⟨h1, h2⟩ := h j u hj
    refine ⟨?_, h2⟩
    rw [World.cell?_setCell_other _ _ _ _ (by intro h; injection h with h1 h2; exact e h2)]
    exact h1
theorem rowset4 (p : List Value) (a b c d x0 x1 x2 x3 : Value) (r : List Value) : ((((p ++ a :: b :: c :: d :: r).set p.length x0).set (p.length + 1) x1).set (p.length + 2) x2).set (p.length + 3) x3 = p ++ x0 :: x1 :: x2 :: x3 :: r := by
  simp [List.set_append_right]
/-- A value of the row stored at another place. -/
theorem RowV.store {w : World} {g : Nat} {S : Nat → Prop} {l : List V} (h : RowV w g S l) (hS : ∀ b, S b → b ≠ g) {i j : Nat} (hi : i < l.length) (hj : j < l.length) {A : Option Addr} {cap : Nat}
    (f3 : w.cell? ⟨g, j * 4 + 3, none⟩ = some (.slice A (itemAt l j).items.length cap)) :
    RowV ((((w.setCell ⟨g, i * 4, none⟩ (.int .i64 (itemAt l j).kind)).setCell ⟨g, i * 4 + 1, none⟩ (.int .i64 (itemAt l j).num)).setCell ⟨g, i * 4 + 2, none⟩ (.string (itemAt l j).text)).setCell ⟨g, i * 4 + 3, none⟩ (.slice A (itemAt l j).items.length cap)) g S (l.set i (itemAt l j)) := by
  obtain ⟨c, h1, h2⟩ := h
  have h3 : RowC w g c := h2
  obtain ⟨p, a, r, he, hp, hv⟩ := CsL.nth j h1 hj
  obtain ⟨A', cap', ha⟩ := hv.cells
  have e3 : c[j * 4 + 3]? = some (.slice A' (itemAt l j).items.length cap') := by
    rw [he, ← hp, List.getElem?_append_right (by omega), ha]
    simp
  have h4 := (h2 _ _ e3).1
  rw [f3] at h4
  injection h4 with h4
  injection h4 with h5 h6 h7
  subst h5 h7
  obtain ⟨p2, a2, b2, c2, d2, r2, he2, hp2, hl2, hr2⟩ := CsL.split i h1 hi
  have hK : Keeps w S ((((w.setCell ⟨g, i * 4, none⟩ (.int .i64 (itemAt l j).kind)).setCell ⟨g, i * 4 + 1, none⟩ (.int .i64 (itemAt l j).num)).setCell ⟨g, i * 4 + 2, none⟩ (.string (itemAt l j).text)).setCell ⟨g, i * 4 + 3, none⟩ (.slice A (itemAt l j).items.length cap)) S := by
    refine Keeps.set_after (Keeps.set_after (Keeps.set_after (Keeps.set ?_ _) ?_ _) ?_ _) ?_ _ <;> exact fun h => hS _ h rfl
  have hn := h1.length
  refine ⟨p2 ++ .int .i64 (itemAt l j).kind :: .int .i64 (itemAt l j).num :: .string (itemAt l j).text :: .slice A (itemAt l j).items.length cap :: r2, ?_, ?_⟩
  · have h5 : CsL w S (l.set i (itemAt l j)) (p2 ++ .int .i64 (itemAt l j).kind :: .int .i64 (itemAt l j).num :: .string (itemAt l j).text :: .slice A (itemAt l j).items.length cap :: r2) := by
      rw [List.set_eq_take_append_cons_drop, if_pos hi]
      exact hl2.append ⟨_, r2, rfl, ha ▸ hv, hr2⟩
    exact h5.keep hK
  · have h6 := (((h3.set (i := i * 4) (by omega) (.int .i64 (itemAt l j).kind)).set (i := i * 4 + 1) (by simp; omega) (.int .i64 (itemAt l j).num)).set (i := i * 4 + 2) (by simp; omega) (.string (itemAt l j).text)).set (i := i * 4 + 3) (by simp; omega) (.slice A (itemAt l j).items.length cap)
    rw [he2, ← hp2, rowset4] at h6
    rw [← hp2]
    exact h6
theorem But.setCells {M : Nat → Prop} {w : World} {g : Nat} (hg : M g) : ∀ (vs : List Value) (o : Nat) (w' : World), But M w w' → But M w (w'.setCells g o vs)
  | [], _, _, h => h
  | v :: r, o, w', h => But.setCells hg r (o + 1) _ (h.set (p := ⟨g, o, none⟩) (.inr hg) v)
theorem Keeps.setCells {S : Nat → Prop} {w : World} {g : Nat} (hg : ¬ S g) : ∀ (vs : List Value) (o : Nat) (w' : World), Keeps w S w' S → Keeps w S (w'.setCells g o vs) S
  | [], _, _, h => h
  | v :: r, o, w', h => Keeps.setCells hg r (o + 1) _ (Keeps.set_after h (p := ⟨g, o, none⟩) hg v)
/-- The row's head when its tail is overwritten. -/
theorem RowV.cut {w : World} {g : Nat} {S : Nat → Prop} {l : List V} (h : RowV w g S l) (hS : ¬ S g) (q : Nat) (vs : List Value) : RowV (w.setCells g (q * 4) vs) g S (l.take q) := by
  obtain ⟨c, h1, h2⟩ := h
  refine ⟨c.take (q * 4), (h1.cut q).keep (Keeps.setCells hS vs _ _ (Keeps.refl _ _)), fun j u hj => ?_⟩
  rw [List.getElem?_take] at hj
  by_cases hjq : j < q * 4
  · rw [if_pos hjq] at hj
    obtain ⟨h3, h4⟩ := h2 j u hj
    refine ⟨?_, ?_⟩
    · rw [World.cell?_setCells_out _ _ _ _ _ (fun _ _ => .inl hjq)]; exact h3
    · rw [World.frozen?_setCells]; exact h4
  · rw [if_neg hjq] at hj; cases hj
theorem RowV.there {w : World} {g : Nat} {S : Nat → Prop} {l : List V} (h : RowV w g S l) (j : Nat) (hj : j < l.length * 4) : (w.cell? ⟨g, j, none⟩).isSome = true ∧ w.frozen? ⟨g, j, none⟩ = false := by
  obtain ⟨c, h1, h2⟩ := h
  have hn := h1.length
  obtain ⟨h3, h4⟩ := h2 j c[j] (List.getElem?_eq_getElem (by omega))
  exact ⟨by rw [h3]; rfl, h4⟩
theorem RowV.open4 {w : World} {g : Nat} {S : Nat → Prop} {l : List V} (h : RowV w g S l) {i : Nat} (hi : i < l.length) : ∃ a b c d, w.cell? ⟨g, i * 4, none⟩ = some a ∧ w.cell? ⟨g, i * 4 + 1, none⟩ = some b ∧ w.cell? ⟨g, i * 4 + 2, none⟩ = some c ∧ w.cell? ⟨g, i * 4 + 3, none⟩ = some d ∧
    w.frozen? ⟨g, i * 4, none⟩ = false ∧ w.frozen? ⟨g, i * 4 + 1, none⟩ = false ∧ w.frozen? ⟨g, i * 4 + 2, none⟩ = false ∧ w.frozen? ⟨g, i * 4 + 3, none⟩ = false := by
  obtain ⟨a, ha⟩ := Option.isSome_iff_exists.1 (h.there (i * 4) (by omega)).1
  obtain ⟨b, hb⟩ := Option.isSome_iff_exists.1 (h.there (i * 4 + 1) (by omega)).1
  obtain ⟨c, hc⟩ := Option.isSome_iff_exists.1 (h.there (i * 4 + 2) (by omega)).1
  obtain ⟨d, hd⟩ := Option.isSome_iff_exists.1 (h.there (i * 4 + 3) (by omega)).1
  exact ⟨a, b, c, d, ha, hb, hc, hd, (h.there _ (by omega)).2, (h.there _ (by omega)).2, (h.there _ (by omega)).2, (h.there _ (by omega)).2⟩
/-- What `clear` writes upon n values. -/
def zeros4 (n : Nat) : List Value := (Builtin.zeroCells #[.int .i64 0, .int .i64 0, .string ⟨#[]⟩, .slice none 0 0] n).toList
theorem zeros4_len (n : Nat) : (zeros4 n).length = n * 4 := by simp [zeros4, Builtin.zeroCells]
theorem zeros4_one (n : Nat) : ∀ v ∈ zeros4 n, v.oneCell' = true := by
  intro v hv
  simp only [zeros4, Builtin.zeroCells, Array.toList_map, List.mem_map] at hv
  obtain ⟨i, _, rfl⟩ := hv
  have h : i % 4 < 4 := Nat.mod_lt _ (by omega)
  show (#[Value.int .i64 0, .int .i64 0, .string ⟨#[]⟩, .slice none 0 0][i % 4]!).oneCell' = true
  generalize i % 4 = k at h
  rcases k with _ | _ | _ | _ | k
  · rfl
  · rfl
  · rfl
  · rfl
  · omega
theorem zero_value (w : World) : (zeroValue 24).run Tryz.prog w = .ok (.agg #[.int .i64 0, .int .i64 0, .string ⟨#[]⟩, .slice none 0 0]) w := by kernel_rfl
theorem run_clear4 (w : World) (ty : TypeId) (g o n c : Nat) (hn : 0 < n) (hc : ∀ j, j < n * 4 → (w.cell? ⟨g, o + j, none⟩).isSome = true) (hf : ∀ j, j < n * 4 → w.frozen? ⟨g, o + j, none⟩ = false) :
    (Builtin.clear_ #[22] ty #[.slice (some ⟨g, o, none⟩) n c]).run Tryz.prog w = .ok (.tuple #[]) (w.setCells g o (zeros4 n)) := by
  have hst := run_storeCells_cells (P := Tryz.prog) g o (zeros4 n) 0 w (by rw [zeros4_len]; simpa using hc) (by rw [zeros4_len]; simpa using hf) (zeros4_one n)
  simp only [Nat.add_zero] at hst
  unfold zeros4 at hst ⊢
  obtain ⟨m, rfl⟩ : ∃ m, n = m + 1 := ⟨n - 1, by omega⟩
  have hz : (Value.agg #[.int .i64 0, .int .i64 0, .string ⟨#[]⟩, .slice none 0 0]).cells = #[.int .i64 0, .int .i64 0, .string ⟨#[]⟩, .slice none 0 0] := by rfl
  simp [Builtin.clear_, run_underlying Tryz.underlying22, zero_value, hz, hst]
end Go.Proofs.YtoiipdknamgcmaaGreatDoor

/- slices.CompactFunc of values. -/
set_option linter.unusedVariables false
set_option linter.unusedSimpArgs false
namespace Go.Proofs.YtoiipdknamgcmaaGreatDoor
open Go.RowKit Go.Shelf
attribute [local go_sem] lt_succ_of
/-- Neighbours are not one. -/
def Apart (l : List V) : Prop := ∀ i, i + 1 < l.length → cmpV (itemAt l (i + 1)) (itemAt l i) ≠ 0
set_option maxRecDepth 100000 in
set_option maxHeartbeats 8000000 in
theorem compact_calls (l : List V) (g cap : Nat) (w : World) (S : Nat → Prop) (hS : ∀ b, S b → b ≠ g) (hR : RowV w g S l) (hg : g < w.heap.size) (hl : l.length ≤ 65536) (hc : l.length ≤ cap) :
    Calls Tryz.prog 88 #[.slice (some ⟨g, 0, none⟩) l.length cap, .func (.func 83) #[] #[]] w fun e w' => ∃ l2, e = .returned (.slice (some ⟨g, 0, none⟩) l2.length cap) ∧ RowV w' g S l2 ∧ But (· = g) w w' ∧ ((Apart l ∧ l2 = l) ∨ (¬ Apart l ∧ l2.length < l.length)) := by
  have HR := Lib.hid hR
  by_cases hshort : l.length < 2
  · have d1 : decide ((l.length : Int) < 2) = true := decide_eq_true (by omega)
    have HA : Hid (Apart l) := Lib.hid fun i hi => by omega
    have hi2 : (l.length : Int) < 2 := by omega
    clear hshort
    go_enter Tryz.func88, Tryz.ntmps88
    go_wp2_with fail
    go_ret
    exact ⟨l, rfl, HR.out, But.of (Below.refl _ _), .inl ⟨HA.out, rfl⟩⟩
  have d1 : decide ((l.length : Int) < 2) = false := decide_eq_false (by omega)
  have hi2 : ¬ (l.length : Int) < 2 := by omega
  go_enter Tryz.func88, Tryz.ntmps88
  go_wp2_with fail
  go_loopw [5] (fun vk wr => ∃ k : Nat, vk = .int .i64 k ∧ 1 ≤ k ∧ k ≤ l.length ∧ Hid (∀ i, i + 1 < k → cmpV (itemAt l (i + 1)) (itemAt l i) ≠ 0) ∧ Hid (Below w.heap.size w wr)) (fun vk _ => l.length - (intOf vk).toNat)
  case atStart => exact ⟨1, rfl, Nat.le_refl _, by omega, Lib.hid (fun i hi => by omega), Lib.hid (Below.refl _ _)⟩
  case round =>
    obtain ⟨k, rfl, hk1, hkl, hap, hb⟩ := hrel
    by_cases hlt : k < l.length
    · have hj : (k : Int) < (l.length : Int) := by omega
      have hjd : decide ((k : Int) < (l.length : Int)) = true := decide_eq_true hj
      obtain ⟨p, HKp⟩ : ∃ p, Hid (k = p + 1) := ⟨k - 1, Lib.hid (by omega)⟩
      have hpl : p < l.length := by have := HKp.out; omega
      have hkw : IntKind.i64.wrap ((k : Int) - 1) = (p : Int) := by
        have := HKp.out
        rw [show (k : Int) - 1 = p by omega]; exact IntWalk.i64_in _ (by omega)
      have hRr := hR.keep hS hb.out
      obtain ⟨ad, A1, cap1, had, hlt1, hbd1, f0, f1, f2, f3, hc1, hA1⟩ := hRr.la.at k hlt
      obtain ⟨ad2, A2, cap2, had2, hlt2, hbd2, g0, g1, g2, g3, hc2, hA2⟩ := hRr.la.at p hpl
      obtain rfl : ad = ⟨g, 0, none⟩ := by injection had with had; exact had.symm
      obtain rfl : ad2 = ⟨g, 0, none⟩ := by injection had2 with had2; exact had2.symm
      rw [plus0] at f0 f1 f2 f3 g0 g1 g2 g3
      have hX := Lib.hid (IsV.mk hbd1 hc1 hA1)
      have hY := Lib.hid (IsV.mk hbd2 hc2 hA2)
      clear had had2
      go_wp2_with fail
      go_still_tail 10, (by kernel_rfl)
      obtain ⟨C, HC⟩ : ∃ C, Hid (cmpV (itemAt l k) (itemAt l p) = C) := ⟨_, Lib.hid rfl⟩
      have HE : Hid (∀ vx vy W, IsV W (fun b => S b ∨ b = g) (itemAt l k) vx → IsV W (fun b => S b ∨ b = g) (itemAt l p) vy → Calls Tryz.prog 83 #[vx, vy] W fun e w' => e = .returned (.bool (decide (C = 0))) ∧ Below W.heap.size W w') := Lib.hid fun vx vy W h1 h2 => by rw [← HC.out]; exact equal_calls _ _ vx vy W _ _ h1 h2
      by_cases hz : C = 0
      · subst hz
        go_wp2_with (go_at_call 83; refine (HE.out _ _ _ (hX.out.keep Keeps.drew) (hY.out.keep Keeps.drew)).mono ?_; rintro e w2 ⟨rfl, hb2⟩; have hb3 := Lib.hid (hb.out.trans ((below_undrew hb2).mono hb.out.size)); clear hb2)
        have hkd : (0 : Int) ≤ (l.length : Int) - k := by omega
        obtain ⟨n2, HN⟩ : ∃ n2, Hid (l.length = k + n2) := ⟨l.length - k, Lib.hid (by omega)⟩
        have hn2 : l.length - k = n2 := by have := HN.out; omega
        rw [hn2]
        go_loopw [5, 7] (fun vk vj wr => ∃ (q j : Nat) (l2 : List V), vk = .int .i64 q ∧ vj = .int .i64 j ∧ 1 ≤ q ∧ 1 ≤ j ∧ j ≤ n2 ∧ Hid (q + 1 ≤ k + j) ∧ Hid (l2.length = l.length) ∧ Hid (RowV wr g S l2) ∧ Hid (But (· = g) w wr)) (fun _ vj _ => n2 - (intOf vj).toNat)
        case atStart => exact ⟨k, 1, l, rfl, rfl, hk1, Nat.le_refl _, by have := HN.out; omega, Lib.hid (Nat.le_refl _), Lib.hid rfl, Lib.hid (hR.keep hS hb3.out), Lib.hid (But.of hb3.out)⟩
        case round =>
          obtain ⟨q, j, l2, rfl, rfl, hq1, hj1, hjn, hqj, hl2, hR2, hB2⟩ := hrel
          by_cases hlj : j < n2
          · have hj2 : (j : Int) < (n2 : Int) := by omega
            have hj2d : decide ((j : Int) < (n2 : Int)) = true := decide_eq_true hj2
            obtain ⟨i, HKi⟩ : ∃ i, Hid (j = i + 1) := ⟨j - 1, Lib.hid (by omega)⟩
            have hil : i < n2 := by have := HKi.out; omega
            have hiw : IntKind.i64.wrap ((j : Int) - 1) = (i : Int) := by
              have := HKi.out
              have := HN.out
              rw [show (j : Int) - 1 = i by omega]; exact IntWalk.i64_in _ (by omega)
            obtain ⟨bd, B1, cap3, hbd, hlt3, hbd3, b0, b1, b2, b3, hc3, hB3⟩ := hR2.out.la.at (k + j) (by have := HN.out; have := hl2.out; omega)
            obtain ⟨bd2, B2, cap4, hbd2, hlt4, hbd4, d0, d1', d2, d3, hc4, hB4⟩ := hR2.out.la.at (k + i) (by have := HN.out; have := hl2.out; omega)
            obtain rfl : bd = ⟨g, 0, none⟩ := by injection hbd with hbd; exact hbd.symm
            obtain rfl : bd2 = ⟨g, 0, none⟩ := by injection hbd2 with hbd2; exact hbd2.symm
            rw [plus0] at b0 b1 b2 b3 d0 d1' d2 d3
            rw [Nat.add_mul] at b0 b1 b2 b3 d0 d1' d2 d3
            have hX2 := Lib.hid (IsV.mk hbd3 hc3 hB3)
            have hY2 := Lib.hid (IsV.mk hbd4 hc4 hB4)
            clear hbd hbd2
            go_wp2_with fail
            go_still_tail 10, (by kernel_rfl)
            obtain ⟨D, hD⟩ : ∃ D, cmpV (itemAt l2 (k + j)) (itemAt l2 (k + i)) = D := ⟨_, rfl⟩
            have HE2 : Hid (∀ vx vy W, IsV W (fun b => S b ∨ b = g) (itemAt l2 (k + j)) vx → IsV W (fun b => S b ∨ b = g) (itemAt l2 (k + i)) vy → Calls Tryz.prog 83 #[vx, vy] W fun e w' => e = .returned (.bool (decide (D = 0))) ∧ Below W.heap.size W w') := Lib.hid fun vx vy W h1 h2 => by rw [← hD]; exact equal_calls _ _ vx vy W _ _ h1 h2
            clear hD
            by_cases hDz : D = 0
            · subst hDz
              go_wp2_with (go_at_call 83; refine (HE2.out _ _ _ (hX2.out.keep Keeps.drew) (hY2.out.keep Keeps.drew)).mono ?_; rintro e w3 ⟨rfl, hb5⟩; have hb6 := Lib.hid (below_undrew hb5); clear hb5)
              exact ⟨⟨q, j + 1, l2, rfl, by simp, hq1, by omega, by omega, Lib.hid (by have := hqj.out; omega), hl2, Lib.hid (hR2.out.keep hS hb6.out), Lib.hid (hB2.out.trans (But.of hb6.out))⟩, by
                show n2 - ((j : Int) + 1).toNat < n2 - ((j : Int)).toNat
                omega⟩
            · have hDz2 : decide (D = 0) = false := decide_eq_false hDz
              rw [hDz2] at HE2
              have hql : q < l.length := by have := HN.out; have := hqj.out; omega
              have hqi : (q : Int) < (l.length : Int) := by omega
              have hql2 : q < l2.length := by have := hl2.out; omega
              clear hql2
              go_wp2_with (go_at_call 83; refine (HE2.out _ _ _ (hX2.out.keep Keeps.drew) (hY2.out.keep Keeps.drew)).mono ?_; rintro e w3 ⟨rfl, hb5⟩; have hb6 := Lib.hid (below_undrew hb5); clear hb5; have p0 := cellB hb6.out b0; have p1 := cellB hb6.out b1; have p2 := cellB hb6.out b2; have p3 := cellB hb6.out b3; have hR3 := Lib.hid (hR2.out.keep hS hb6.out); clear b0 b1 b2 b3; obtain ⟨y0, y1, y2, y3, q0, q1, q2, q3, z0, z1, z2, z3⟩ := hR3.out.open4 (i := q) (by have := hl2.out; omega))
              have hqj2 := hqj.out
              exact ⟨⟨q + 1, j + 1, l2.set q (itemAt l2 (k + j)), by simp, by simp, by omega, by omega, by omega, Lib.hid (by omega), Lib.hid (by rw [List.length_set]; exact hl2.out),
                Lib.hid (hR3.out.store hS (by have := hl2.out; omega) (by have := hl2.out; have := HN.out; omega) (by rw [Nat.add_mul]; exact p3)),
                Lib.hid ((((((hB2.out.trans (But.of hb6.out)).set (p := ⟨g, q * 4, none⟩) (.inr rfl) _).set (p := ⟨g, q * 4 + 1, none⟩) (.inr rfl) _).set (p := ⟨g, q * 4 + 2, none⟩) (.inr rfl) _).set (p := ⟨g, q * 4 + 3, none⟩) (.inr rfl) _))⟩, by
                show n2 - ((j : Int) + 1).toNat < n2 - ((j : Int)).toNat
                omega⟩
          · have hj2 : ¬ (j : Int) < (n2 : Int) := by omega
            have hj2d : decide ((j : Int) < (n2 : Int)) = false := decide_eq_false hj2
            have hql : q < l.length := by have := HN.out; have := hqj.out; omega
            have hqi : (q : Int) ≤ (l.length : Int) := by omega
            have hqc : (q : Int) ≤ (cap : Int) := by omega
            have hqc2 : q ≤ cap := by omega
            have hqcn : ¬ cap = q := by omega
            have hnA : Hid (¬ Apart l) := Lib.hid fun h => h p (by have := HKp.out; omega) (by rw [← HKp.out]; exact HC.out)
            have HL2 := Lib.hid hl2.out
            have HCl := Lib.hid fun (W : World) (ty : TypeId) (hc : ∀ j, j < (l.length - q) * 4 → (W.cell? ⟨g, q * 4 + j, none⟩).isSome = true) (hf : ∀ j, j < (l.length - q) * 4 → W.frozen? ⟨g, q * 4 + j, none⟩ = false) => run_clear4 W ty g (q * 4) (l.length - q) (cap - q) (by omega) hc hf
            have HTh := Lib.hid hR2.out.there
            have hcl : ∀ ty, (Builtin.clear_ #[22] ty #[.slice (some ⟨g, q * 4, none⟩) (l.length - q) (cap - q)]).run Tryz.prog wr = .ok (.tuple #[]) (wr.setCells g (q * 4) (zeros4 (l.length - q))) := fun ty =>
              HCl.out wr ty (fun j hj => (HTh.out _ (by have := hl2.out; omega)).1) (fun j hj => (HTh.out _ (by have := hl2.out; omega)).2)
            go_wp2_with (simp only [hcl])
            go_ret
            have hlt : (l2.take q).length = q := by rw [List.length_take]; have := hl2.out; omega
            refine ⟨l2.take q, by rw [hlt]; rfl, hR2.out.cut (fun h => hS g h rfl) q _, But.setCells (M := fun x => x = g) rfl _ _ _ hB2.out, .inr ⟨hnA.out, by rw [hlt]; exact hql⟩⟩
      · have hz2 : decide (C = 0) = false := decide_eq_false hz
        rw [hz2] at HE
        go_wp2_with (go_at_call 83; refine (HE.out _ _ _ (hX.out.keep Keeps.drew) (hY.out.keep Keeps.drew)).mono ?_; rintro e w2 ⟨rfl, hb2⟩; have hb3 := Lib.hid (hb.out.trans ((below_undrew hb2).mono hb.out.size)); clear hb2)
        refine ⟨⟨k + 1, by simp, by omega, by omega, Lib.hid (fun i hi => by
            by_cases h : i + 1 < k
            · exact hap.out i h
            · have h1 := HKp.out
              obtain rfl : i = p := by omega
              rw [← h1, HC.out]
              exact hz), hb3⟩, ?_⟩
        show (l.length - ((k : Int) + 1).toNat) < l.length - ((k : Int)).toNat
        omega
    · have HA : Hid (Apart l) := Lib.hid fun i hi => hap.out i (by omega)
      have hj : ¬ (k : Int) < (l.length : Int) := by omega
      have hjd : decide ((k : Int) < (l.length : Int)) = false := decide_eq_false hj
      have HRR := Lib.hid (hR.keep hS hb.out)
      go_wp2_with fail
      go_ret
      exact ⟨l, rfl, HRR.out, But.of hb.out, .inl ⟨HA.out, rfl⟩⟩
end Go.Proofs.YtoiipdknamgcmaaGreatDoor
