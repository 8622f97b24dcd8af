/- Nodes; copies of slices of parts; an item put at the front. -/
import Derived.Deep.RegionHeld3
import Derived.Test.YtjjbhnkplbjfeaaDoorCFnE

set_option linter.unusedVariables false
set_option linter.unusedSimpArgs false
namespace Go.Proofs.YtjjbhnkplbjfeaaDoor
open Go.RowKit
attribute [local go_sem] lt_succ_of methItem methNode asItem asNode isNode noNode fieldNode fieldItem

theorem block2 {w : World} {b : Nat} {c0 c1 : Value} {t : TypeId} (h : w.heap[b]? = some (.cells #[c0, c1] t (0, 0))) : w.cell? ⟨b, 0, none⟩ = some c0 ∧ w.cell? ⟨b, 1, none⟩ = some c1 := by simp [World.cell?, h]
set_option maxRecDepth 100000 in
set_option maxHeartbeats 4000000 in
theorem joined_calls (ks : List Pt) (vl : Value) (w : World) (S : Nat → Prop) (h1 : IsPs w S ks vl) (h0 : 0 < ks.length) (hm : (Pt.flat ks).length ≤ 4294967296) (hk : ks.length ≤ 65536) :
    Calls Tryd.prog 97 #[vl] w fun e w' => ∃ v, e = .returned v ∧ IsP w' (Old w S) (.node ks) (.iface 137 v) ∧ (∃ a b, v = .agg #[a, b]) ∧ Below w.heap.size w w' := by
  obtain ⟨w1, hw1, hB1, hsz, hb0⟩ : ∃ w1, w.alloc (.cells #[.int .i64 0, .slice none 0 0] 137) = w1 ∧ Below w.heap.size w w1 ∧ w.heap.size + 1 = w1.heap.size ∧ w1.heap[w.heap.size]? = some (.cells #[.int .i64 0, .slice none 0 0] 137 (0, 0)) :=
    ⟨_, rfl, (Below.refl _ _).alloc (Nat.le_refl _) _, by simp, heap_alloc_new w _⟩
  have HT := Lib.hid (total_calls ks vl w1 S (h1.below hB1) hm (by omega))
  have H1 := Lib.hid h1
  obtain ⟨ad, cap, rfl, hc, _⟩ := H1.out.addr h0
  have HB0 := Lib.hid hb0
  obtain ⟨n, hn⟩ : ∃ n : Int, ((Pt.flat ks).length : Int) = n := ⟨_, rfl⟩
  rw [hn] at HT
  have HN := Lib.hid hn
  clear h1 hb0 hn hm
  go_enter Tryd.func97, Tryd.ntmps97
  go_wp2_with (go_at_call 103; refine HT.out.mono ?_; rintro e w2 ⟨rfl, hb2⟩; have hk2 := blockB hb2 HB0.out; obtain ⟨e0, e1⟩ := block2 hk2; have fz := free4 hk2; have hb3 := below_then hB1 hB1.size hb2; have HK := Lib.hid hk2; clear hk2)
  have h5 := blockset HK.out 0 (.int .i64 n)
  have h6 := blockset h5 1 (.slice (some ad) ks.length cap)
  obtain ⟨f0, f1⟩ := block2 (show ((w2.setCell ⟨w.heap.size, 0, none⟩ (.int .i64 n)).setCell ⟨w.heap.size, 1, none⟩ (.slice (some ad) ks.length cap)).heap[w.heap.size]? = some (.cells #[.int .i64 n, .slice (some ad) ks.length cap] 137 (0, 0)) by simpa using h6)
  have hb7 : Below w.heap.size w ((w2.setCell ⟨w.heap.size, 0, none⟩ (.int .i64 n)).setCell ⟨w.heap.size, 1, none⟩ (.slice (some ad) ks.length cap)) := (hb3.setCell (Nat.le_refl _) _).setCell (Nat.le_refl _) _
  have HP : Hid (IsP ((w2.setCell ⟨w.heap.size, 0, none⟩ (.int .i64 n)).setCell ⟨w.heap.size, 1, none⟩ (.slice (some ad) ks.length cap)) (Old w S) (.node ks) (.iface 137 (.agg #[.int .i64 n, .slice (some ad) ks.length cap]))) := Lib.hid (by
    obtain ⟨ad', cap', e, h8, h9⟩ := H1.out.addr h0
    injection e with e1 e2 e3
    injection e1 with e1
    subst e1 e3
    rw [← HN.out]
    exact IsP.node_mk h8 (h9.keep (by rw [HN.out]; exact keeps_old hb7)))
  clear h5 h6
  exact bodyPost_ret (v := .agg #[.int .i64 n, .slice (some ad) ks.length cap]) (by simp [results, Tryd.results97, go_sem, f0, f1]) rfl ⟨_, rfl, HP.out, ⟨_, _, rfl⟩, hb7⟩
theorem OwnP.mono {w : World} {base base' : Nat} {S : Nat → Prop} {l : List Pt} {v : Value} (h : OwnP w base S l v) (hb : base' ≤ base) : OwnP w base' S l v := by
  obtain ⟨xs, ⟨h1, h2⟩, h3⟩ := h
  refine ⟨xs, ⟨h1, ?_⟩, h3⟩
  rcases h2 with h2 | ⟨g, cap, cur, h2, h4, h5⟩
  · exact .inl h2
  · exact .inr ⟨g, cap, cur, h2, Nat.le_trans hb h4, h5⟩
theorem notNil (ad : Addr) (n c : Nat) (w : World) : (binOp BinOp.eql 118 (.slice (some ad) n c) (.slice none 0 0)).run Tryd.prog w = .ok (.bool false) w := by kernel_rfl
attribute [local go_sem] notNil
set_option maxRecDepth 100000 in
theorem clone_calls (m : List Pt) (vm : Value) (w : World) (S : Nat → Prop) (h : IsPs w S m vm) (h0 : 0 < m.length) (hm : m.length ≤ 65536) :
    Calls Tryd.prog 113 #[vm] w fun e w' => ∃ v, e = .returned v ∧ OwnP w' w.heap.size (fun b => S b ∧ b < w.heap.size) m v ∧ Below w.heap.size w w' := by
  obtain ⟨ad, cap, rfl, hc, hp⟩ := h.addr h0
  have HP := Lib.hid (hp.keep (w' := w.alloc (.cells #[] 115)) (S' := fun b => S b ∧ b < w.heap.size) fun b hb hs => ⟨⟨hs, hb⟩, Below.heap_alloc _ _ _ hb⟩)
  clear h hp
  go_enter Tryd.func113, Tryd.ntmps113
  go_wp2_with (at_builtin; refine appendP_grow (fun b => S b ∧ b < w.heap.size) rfl _ _ rfl [] m ⟨w.heap.size, 0, none⟩ ad cap rfl rfl (by simp only [PC]) HP.out h0 (by simp; omega) ?_; intro v1 w1 hown hg; have HO := Lib.hid hown; have hb := grown_none hg; clear hown)
  go_ret
  refine ⟨_, rfl, ?_, below_then ((Below.refl _ _).alloc (Nat.le_refl _) _) (by simp) hb⟩
  have h9 := HO.out
  rw [List.nil_append] at h9
  exact h9.mono (by simp)
end Go.Proofs.YtjjbhnkplbjfeaaDoor
