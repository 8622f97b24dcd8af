/- The table of orders. -/
import Derived.Laws.EntriesVeiled
import Derived.Test.YtmnblgaefdahhaaGreatDoorCQoC
import Derived.Test.YtmnblgaefdahhaaGreatDoorCQoD
import Derived.Test.YtmnblgaefdahhaaGreatDoorCQoE

set_option linter.unusedVariables false
set_option linter.unusedSimpArgs false
namespace Go.Proofs.YtmnblgaefdahhaaGreatDoor
open Go.RowKit Go.Shelf
attribute [local go_sem] lt_succ_of

/-- The six orders. -/
noncomputable def ordF (o : Nat) (x y : V) : Int :=
  if o = 0 then cmpV x y else if o = 1 then cmpV y x else if o = 2 then orI (sgn (fullV x) (fullV y)) (cmpV x y)
  else if o = 3 then orI (sgn (partM x) (partM y)) (cmpV x y) else if o = 4 then kindBy 3 runeM x y else kindBy 2 awayM x y
theorem ordF_ordr (o : Nat) : Ordr (ordF o) := by
  unfold ordF
  by_cases h0 : o = 0
  · simp only [h0, if_true]; exact ordr_cmp
  · by_cases h1 : o = 1
    · simp only [h1, if_true, if_neg (show ¬ (1 : Nat) = 0 by omega)]; exact ordr_back ordr_cmp
    · by_cases h2 : o = 2
      · simp only [h2, if_true, if_neg (show ¬ (2 : Nat) = 0 by omega), if_neg (show ¬ (2 : Nat) = 1 by omega)]; exact ordr_by fullV
      · by_cases h3 : o = 3
        · simp only [h3, if_true, if_neg (show ¬ (3 : Nat) = 0 by omega), if_neg (show ¬ (3 : Nat) = 1 by omega), if_neg (show ¬ (3 : Nat) = 2 by omega)]; exact ordr_by partM
        · by_cases h4 : o = 4
          · simp only [h4, if_true, if_neg (show ¬ (4 : Nat) = 0 by omega), if_neg (show ¬ (4 : Nat) = 1 by omega), if_neg (show ¬ (4 : Nat) = 2 by omega), if_neg (show ¬ (4 : Nat) = 3 by omega)]; exact ordr_kind 3 runeM
          · simp only [if_neg h0, if_neg h1, if_neg h2, if_neg h3, if_neg h4]; exact ordr_kind 2 awayM
/-- A function value compares by an order, wherever the blocks that it stands on are as they were. -/
def CmprAt (c : V → V → Int) (g : Nat) (cb : Array Value) (w : World) : Prop := ∀ (x y : V) (vx vy : Value) (S S' : Nat → Prop), IsV w S x vx → IsV w S' y vy → rightB x = true → rightB y = true → Lib.Utf8Tabs 1 2 w →
  Calls Tryz.prog g (#[vx, vy] ++ cb) w fun e w' => e = .returned (.int .i64 (c x y)) ∧ Bd w w'
def Cmpr (c : V → V → Int) (lo : Nat) (w : World) (vf : Value) : Prop := ∃ (g : Nat) (cb : Array Value) (B : Nat → Prop), vf = .func (.func g) #[] cb ∧ (∀ args w, (callFunc g args).run Tryz.prog w = .ok (.enter g args) w) ∧ (∀ b, B b → lo ≤ b ∧ b < w.heap.size) ∧
  ∀ w', (∀ b, B b → w'.heap[b]? = w.heap[b]?) → CmprAt c g cb w'
theorem Cmpr.keep {c : V → V → Int} {lo : Nat} {w w' : World} {vf : Value} (h : Cmpr c lo w vf) (hb : Bd w w') : Cmpr c lo w' vf := by
  obtain ⟨g, cb, B, h1, h2, h3, h4⟩ := h
  exact ⟨g, cb, B, h1, h2, fun b hb' => ⟨(h3 b hb').1, Nat.lt_of_lt_of_le (h3 b hb').2 hb.size⟩, fun w'' hk => h4 w'' fun b hb' => (hk b hb').trans (hb.block b (h3 b hb').2)⟩
theorem Cmpr.lower {c : V → V → Int} {lo lo' : Nat} {w : World} {vf : Value} (h : Cmpr c lo w vf) (hl : lo' ≤ lo) : Cmpr c lo' w vf := by
  obtain ⟨g, cb, B, h1, h2, h3, h4⟩ := h
  exact ⟨g, cb, B, h1, h2, fun b hb' => ⟨Nat.le_trans hl (h3 b hb').1, (h3 b hb').2⟩, h4⟩
theorem Cmpr.set {c : V → V → Int} {lo : Nat} {w : World} {vf : Value} (h : Cmpr c lo w vf) {p : Addr} (hp : p.block < lo) (u : Value) : Cmpr c lo (w.setCell p u) vf := by
  obtain ⟨g, cb, B, h1, h2, h3, h4⟩ := h
  have hk : ∀ b, B b → (w.setCell p u).heap[b]? = w.heap[b]? := fun b hb => Below.heap_setCell _ _ _ _ (by have := (h3 b hb).1; omega)
  have h6 : (w.setCell p u).heap.size = w.heap.size := by simp [World.setCell]
  exact ⟨g, cb, B, h1, h2, fun b hb => ⟨(h3 b hb).1, by rw [h6]; exact (h3 b hb).2⟩, fun w'' h5 => h4 w'' fun b hb => (h5 b hb).trans (hk b hb)⟩
theorem Cmpr.form {c : V → V → Int} {lo : Nat} {w : World} {vf : Value} (h : Cmpr c lo w vf) : ∃ g cb, vf = .func (.func g) #[] cb := by
  obtain ⟨g, cb, B, h1, _⟩ := h
  exact ⟨g, cb, h1⟩
theorem Bd.set {w w1 : World} (h : Bd w w1) {p : Addr} (hp : w.heap.size ≤ p.block) (u : Value) : Bd w (w1.setCell p u) :=
  ⟨h.below.setCell hp u, h.drawn⟩
theorem cmpr0 (lo : Nat) (w : World) : Cmpr (ordF 0) lo w (.func (.func 59) #[] #[]) :=
  ⟨_, _, fun _ => False, rfl, Tryz.call59, fun _ h => h.elim, fun w' _ x y vx vy S S' hx hy _ _ _ => by
    simp only [ordF, if_true]
    exact compared_calls x y vx vy w' S S' hx hy⟩
theorem cmpr1 (lo : Nat) (w : World) : Cmpr (ordF 1) lo w (.func (.func 60) #[] #[]) :=
  ⟨_, _, fun _ => False, rfl, Tryz.call60, fun _ h => h.elim, fun w' _ x y vx vy S S' hx hy _ _ _ => by
    simp only [ordF, if_true, if_neg (show ¬ (1 : Nat) = 0 by omega)]
    exact back_calls x y vx vy w' S S' hx hy⟩
theorem cmpr4 (lo : Nat) (w : World) : Cmpr (ordF 4) lo w (.func (.func 65) #[] #[]) :=
  ⟨_, _, fun _ => False, rfl, Tryz.call65, fun _ h => h.elim, fun w' _ x y vx vy S S' hx hy _ _ _ => by
    simp only [ordF, if_true, if_neg (show ¬ (4 : Nat) = 0 by omega), if_neg (show ¬ (4 : Nat) = 1 by omega), if_neg (show ¬ (4 : Nat) = 2 by omega), if_neg (show ¬ (4 : Nat) = 3 by omega)]
    exact runes_calls x y vx vy w' S S' hx hy⟩
theorem cmpr5 (lo : Nat) (w : World) : Cmpr (ordF 5) lo w (.func (.func 66) #[] #[]) :=
  ⟨_, _, fun _ => False, rfl, Tryz.call66, fun _ h => h.elim, fun w' _ x y vx vy S S' hx hy _ _ _ => by
    simp only [ordF, if_neg (show ¬ (5 : Nat) = 0 by omega), if_neg (show ¬ (5 : Nat) = 1 by omega), if_neg (show ¬ (5 : Nat) = 2 by omega), if_neg (show ¬ (5 : Nat) = 3 by omega), if_neg (show ¬ (5 : Nat) = 4 by omega)]
    exact near_calls x y vx vy w' S S' hx hy⟩
theorem cell_of_block {w w' : World} {b : Nat} {v : Value} (h : w.cell? ⟨b, 0, none⟩ = some v) (hk : w'.heap[b]? = w.heap[b]?) : w'.cell? ⟨b, 0, none⟩ = some v := (World.cell?_of_block hk).trans h
theorem cmpr2 (lo : Nat) (w : World) (b : Nat) (hlo : lo ≤ b) (hM : w.cell? ⟨b, 0, none⟩ = some (.func (.func 62) #[] #[])) : Cmpr (ordF 2) lo w (.func (.func 78) #[] #[.pointer (some ⟨b, 0, none⟩)]) :=
  ⟨_, _, fun k => k = b, rfl, Tryz.call78, fun k h => by subst h; exact ⟨hlo, World.block_lt_of_cell? w _ hM⟩, fun w' hk x y vx vy S S' hx hy hrx hry hT => by
    simp only [ordF, if_true, if_neg (show ¬ (2 : Nat) = 0 by omega), if_neg (show ¬ (2 : Nat) = 1 by omega)]
    exact byuint32_calls x y vx vy w' S S' b hx hy hrx hry hT (cell_of_block hM (hk b rfl))⟩
theorem cmpr3 (lo : Nat) (w : World) (b : Nat) (hlo : lo ≤ b) (hM : w.cell? ⟨b, 0, none⟩ = some (.func (.func 64) #[] #[])) : Cmpr (ordF 3) lo w (.func (.func 82) #[] #[.pointer (some ⟨b, 0, none⟩)]) :=
  ⟨_, _, fun k => k = b, rfl, Tryz.call82, fun k h => by subst h; exact ⟨hlo, World.block_lt_of_cell? w _ hM⟩, fun w' hk x y vx vy S S' hx hy hrx hry hT => by
    simp only [ordF, if_true, if_neg (show ¬ (3 : Nat) = 0 by omega), if_neg (show ¬ (3 : Nat) = 1 by omega), if_neg (show ¬ (3 : Nat) = 2 by omega)]
    exact byint_calls x y vx vy w' S S' b hx hy hrx hry hT (cell_of_block hM (hk b rfl))⟩
theorem cell_of_new {w : World} {b : Nat} {v : Value} {t : TypeId} (h : w.heap[b]? = some (.cells #[v] t (0, 0))) : w.cell? ⟨b, 0, none⟩ = some v := by simp only [World.cell?, h]; rfl
theorem free_of_new {w : World} {b : Nat} {v : Value} {t : TypeId} (h : w.heap[b]? = some (.cells #[v] t (0, 0))) : w.frozen? ⟨b, 0, none⟩ = false := by simp [World.frozen?, h]
theorem set_one {w : World} {b : Nat} {v : Value} {t : TypeId} (h : w.heap[b]? = some (.cells #[v] t (0, 0))) (u : Value) : (w.setCell ⟨b, 0, none⟩ u).heap[b]? = some (.cells #[u] t (0, 0)) := by
  rw [blockset h 0 u]
  rfl
theorem by32_calls (w : World) : Calls Tryz.prog 61 #[.func (.func 62) #[] #[]] w fun e w' => e = .returned (.agg #[.func (.func 78) #[] #[.pointer (some ⟨w.heap.size, 0, none⟩)]]) ∧ Bd w w' ∧ w'.cell? ⟨w.heap.size, 0, none⟩ = some (.func (.func 62) #[] #[]) := by
  go_enter Tryz.func61, Tryz.ntmps61
  go_wp2
  refine bodyPost_ret (v := .agg #[.func (.func 78) #[] #[.pointer (some ⟨w.heap.size, 0, none⟩)]]) (by simp [results, Tryz.results61, go_sem]) rfl ⟨rfl, (Bd.box _ _).trans (Bd.box _ _), ?_⟩
  have h := heap_alloc_new w (.cells #[.func (.func 62) #[] #[]] 112)
  exact cellD (Bd.box _ _) (cell_of_new h)
theorem byi_calls (w : World) : Calls Tryz.prog 63 #[.func (.func 64) #[] #[]] w fun e w' => e = .returned (.agg #[.func (.func 82) #[] #[.pointer (some ⟨w.heap.size, 0, none⟩)]]) ∧ Bd w w' ∧ w'.cell? ⟨w.heap.size, 0, none⟩ = some (.func (.func 64) #[] #[]) := by
  go_enter Tryz.func63, Tryz.ntmps63
  go_wp2
  refine bodyPost_ret (v := .agg #[.func (.func 82) #[] #[.pointer (some ⟨w.heap.size, 0, none⟩)]]) (by simp [results, Tryz.results63, go_sem]) rfl ⟨rfl, (Bd.box _ _).trans (Bd.box _ _), ?_⟩
  have h := heap_alloc_new w (.cells #[.func (.func 64) #[] #[]] 114)
  exact cellD (Bd.box _ _) (cell_of_new h)
set_option maxRecDepth 100000 in
theorem table_calls (w : World) : Calls Tryz.prog 45 #[] w fun e w' => ∃ A, e = .returned (.slice (some A) 6 6) ∧ Bd w w' ∧ ∀ i, i < 6 → ∃ f, w'.cell? (A.add i) = some f ∧ Cmpr (ordF i) w.heap.size w' f := by
  have H2 := Lib.hid (fun W => by32_calls W)
  have H3 := Lib.hid (fun W => byi_calls W)
  go_enter Tryz.func45, Tryz.ntmps45
  go_wp2_with (first
    | (go_at_call 61; refine (H2.out _).mono ?_; rintro e w2 ⟨rfl, hb2, hc2⟩; have HC2 := Lib.hid hc2; clear hc2)
    | (go_at_call 63; refine (H3.out _).mono ?_; rintro e w3 ⟨rfl, hb3, hc3⟩; have HC3 := Lib.hid hc3; clear hc3))
  go_ret
  have hb4 := Bd.box w3 (.cells #[.func (.func 59) #[] #[], .func (.func 60) #[] #[], .func (.func 78) #[] #[.pointer (some ⟨w.heap.size, 0, none⟩)], .func (.func 82) #[] #[.pointer (some ⟨w2.heap.size, 0, none⟩)], .func (.func 65) #[] #[], .func (.func 66) #[] #[]] 43)
  refine ⟨⟨w3.heap.size, 0, none⟩, rfl, (hb2.trans hb3).trans hb4, fun i hi => ?_⟩
  rw [plus0]
  have hn := heap_alloc_new w3 (.cells #[.func (.func 59) #[] #[], .func (.func 60) #[] #[], .func (.func 78) #[] #[.pointer (some ⟨w.heap.size, 0, none⟩)], .func (.func 82) #[] #[.pointer (some ⟨w2.heap.size, 0, none⟩)], .func (.func 65) #[] #[], .func (.func 66) #[] #[]] 43)
  have : i = 0 ∨ i = 1 ∨ i = 2 ∨ i = 3 ∨ i = 4 ∨ i = 5 := by omega
  rcases this with rfl | rfl | rfl | rfl | rfl | rfl
  · exact ⟨_, block_cells (c := [_, _, _, _, _, _]) hn 0 _ rfl, cmpr0 _ _⟩
  · exact ⟨_, block_cells (c := [_, _, _, _, _, _]) hn 1 _ rfl, cmpr1 _ _⟩
  · exact ⟨_, block_cells (c := [_, _, _, _, _, _]) hn 2 _ rfl, cmpr2 _ _ _ (Nat.le_refl _) (cellD hb4 (cellD hb3 HC2.out))⟩
  · exact ⟨_, block_cells (c := [_, _, _, _, _, _]) hn 3 _ rfl, cmpr3 _ _ _ hb2.size (cellD hb4 HC3.out)⟩
  · exact ⟨_, block_cells (c := [_, _, _, _, _, _]) hn 4 _ rfl, cmpr4 _ _⟩
  · exact ⟨_, block_cells (c := [_, _, _, _, _, _]) hn 5 _ rfl, cmpr5 _ _⟩
set_option maxRecDepth 100000 in
theorem asked_calls (o : Nat) (ho : o < 6) (w : World) : Calls Tryz.prog 29 #[.int .i64 o] w fun e w' => ∃ f, e = .returned (.tuple #[.agg #[f], .int .i64 0]) ∧ Cmpr (ordF o) (w.heap.size + 1) w' f ∧ Bd w w' := by
  have hz0 : ¬ ((o : Int) < 0) := by omega
  have hz1 : ¬ (5 < (o : Int)) := by omega
  have hz2 : (o : Int) < 6 := by omega
  obtain ⟨w1, hw1, hB1, hs1, hc1⟩ : ∃ w1, w.alloc (.cells #[.nilFunc] 43) = w1 ∧ Bd w w1 ∧ w1.heap.size = w.heap.size + 1 ∧ w1.heap[w.heap.size]? = some (.cells #[.nilFunc] 43 (0, 0)) := ⟨_, rfl, Bd.box _ _, size_box _ _, heap_alloc_new _ _⟩
  have HT := Lib.hid (table_calls w1)
  have HO := Lib.hid ho
  have HS1 := Lib.hid hs1
  have hl1 : w.heap.size < w1.heap.size := by omega
  clear ho hs1
  go_enter Tryz.func29, Tryz.ntmps29
  go_wp2_with (go_at_call 45; refine HT.out.mono ?_; rintro e w2 ⟨A, rfl, hb2, htab⟩; obtain ⟨f, hf, hcm⟩ := htab o HO.out; have HCM := Lib.hid hcm; obtain ⟨g, cb, rfl⟩ := hcm.form; clear htab hcm; have hd0 := (hb2.block _ hl1).trans hc1; have hd1 := cell_of_new hd0; have hd2 := free_of_new hd0; have HD0 := Lib.hid hd0; clear hd0)
  have hd3 := cell_of_new (set_one HD0.out (.func (.func g) #[] cb))
  refine bodyPost_ret (v := .tuple #[.agg #[.func (.func g) #[] cb], .int .i64 0]) (by simp [results, Tryz.results29, go_sem, hd3]) rfl ⟨_, rfl, ?_, (hB1.trans hb2).set (Nat.le_refl _) _⟩
  have h1 := HCM.out
  rw [HS1.out] at h1
  exact h1.set (Nat.lt_succ_self _) _
set_option maxRecDepth 100000 in
theorem asked_bad (o : Int) (ho : o < 0 ∨ 5 < o) (w : World) : Calls Tryz.prog 29 #[.int .i64 o] w fun e w' => e = .returned (.tuple #[.agg #[.nilFunc], .int .i64 4]) ∧ Bd w w' := by
  obtain ⟨w1, hw1, hB1, hs1, hc1⟩ : ∃ w1, w.alloc (.cells #[.nilFunc] 43) = w1 ∧ Bd w w1 ∧ w1.heap.size = w.heap.size + 1 ∧ w1.heap[w.heap.size]? = some (.cells #[.nilFunc] 43 (0, 0)) := ⟨_, rfl, Bd.box _ _, size_box _ _, heap_alloc_new _ _⟩
  have hd1 := cell_of_new hc1
  have hd2 := free_of_new hc1
  have hd3 := cell_of_new (set_one hc1 .nilFunc)
  have hl1 : w.heap.size < w1.heap.size := by omega
  clear hc1 hs1
  by_cases h0 : o < 0
  · clear ho
    go_enter Tryz.func29, Tryz.ntmps29
    go_wp2
    refine bodyPost_ret (v := .tuple #[.agg #[.nilFunc], .int .i64 4]) (by simp [results, Tryz.results29, go_sem, hd3]) rfl ⟨rfl, hB1.set (Nat.le_refl _) _⟩
  · have h1 : 5 < o := by omega
    clear ho
    go_enter Tryz.func29, Tryz.ntmps29
    go_wp2
    refine bodyPost_ret (v := .tuple #[.agg #[.nilFunc], .int .i64 4]) (by simp [results, Tryz.results29, go_sem, hd3]) rfl ⟨rfl, hB1.set (Nat.le_refl _) _⟩
end Go.Proofs.YtmnblgaefdahhaaGreatDoor
