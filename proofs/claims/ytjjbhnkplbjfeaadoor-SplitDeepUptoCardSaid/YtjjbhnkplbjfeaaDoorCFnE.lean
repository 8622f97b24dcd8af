/- New trees, nodes, slices of parts. -/
import Derived.Test.YtjjbhnkplbjfeaaDoorCFnD

set_option linter.unusedVariables false
set_option linter.unusedSimpArgs false
namespace Go.Proofs.YtjjbhnkplbjfeaaDoor
open Go.RowKit
attribute [local go_sem] lt_succ_of methItem methNode

theorem asItem (a b c d : Value) (w : World) : (Instr.typeAssert (.iface 103 (.agg #[a, b, c, d])) 115 103 false).run Tryd.prog w = .ok (.agg #[a, b, c, d]) w := by kernel_rfl
theorem asNode (a b : Value) (w : World) : (Instr.typeAssert (.iface 137 (.agg #[a, b])) 115 137 false).run Tryd.prog w = .ok (.agg #[a, b]) w := by kernel_rfl
theorem isNode (a b : Value) (w : World) : (Instr.typeAssert (.iface 137 (.agg #[a, b])) 115 137 true).run Tryd.prog w = .ok (.tuple #[.agg #[a, b], .bool true]) w := by kernel_rfl
theorem noNode (a b c d : Value) (w : World) : (Instr.typeAssert (.iface 103 (.agg #[a, b, c, d])) 115 137 true).run Tryd.prog w = .ok (.tuple #[.agg #[.int .i64 0, .slice none 0 0], .bool false]) w := by kernel_rfl
theorem fieldNode (n : Int) (A : Option Addr) (k c : Nat) (w : World) : (Instr.field 137 (.agg #[.int .i64 n, .slice A k c]) 1).run Tryd.prog w = .ok (.slice A k c) w := by kernel_rfl
theorem fieldItem (k n : Int) (t : ByteArray) (A : Option Addr) (m c : Nat) (w : World) : (Instr.field 103 (.agg #[.int .i64 k, .int .i64 n, .string t, .slice A m c]) 0).run Tryd.prog w = .ok (.agg #[.int .i64 k, .int .i64 n, .string t, .slice A m c]) w := by kernel_rfl
attribute [local go_sem] asItem asNode isNode noNode fieldNode fieldItem

/-- A slice that has just been made. -/
theorem slice_new {w w2 : World} {S : Nat → Prop} (hb : Below w.heap.size w w2) {l : List Pt} {cs : List Value} (h : CsP w2 (Old w S) l cs) :
    IsPs (w2.alloc (.cells cs.toArray 115)) (Old w S) l (.slice (some ⟨w2.heap.size, 0, none⟩) l.length l.length) := by
  have hl := h.length
  refine ⟨_, _, rfl, Nat.le_refl _, .inr ⟨_, rfl, CsP.pc (.inr hb.size) (h.keep (Keeps.alloc _)) fun j u hu => ?_⟩⟩
  rw [plus0, Nat.zero_add]
  simp only [World.cell?, heap_alloc_new]
  simpa using hu
/-- A tree that has just been made. -/
theorem tree_new {w w2 : World} {S : Nat → Prop} (hb : Below w.heap.size w w2) {l r : List Pt} {m : Ft} {vl vr : Value} {q : Option Addr} (h1 : IsPs w2 (Old w S) l vl) (h2 : IsPs w2 (Old w S) r vr) (h3 : IsF w2 (Old w S) m q) {n : Int} (hn : n = ((Ft.items (.mk l m r)).length : Nat)) :
    IsF (w2.alloc (.cells #[.int .i64 n, vl, vr, .pointer q] 120)) (Old w S) (.mk l m r) (some ⟨w2.heap.size, 0, none⟩) ∧ Below w.heap.size w (w2.alloc (.cells #[.int .i64 n, vl, vr, .pointer q] 120)) := by
  subst hn
  have hk := heap_alloc_new w2 (.cells #[.int .i64 ((Ft.items (.mk l m r)).length : Nat), vl, vr, .pointer q] 120)
  obtain ⟨c0, c1, c2, c3⟩ := block4 hk
  exact ⟨⟨_, vl, vr, q, rfl, .inr hb.size, c0, c1, c2, c3, h1.keep (Keeps.alloc _), h2.keep (Keeps.alloc _), h3.keep (Keeps.alloc _)⟩, hb.alloc hb.size _⟩
/-- What is asked of a call that makes a tree. -/
def MadeF (w : World) (S : Nat → Prop) (t : Ft) (e : Ending) (w' : World) : Prop := ∃ p, e = .returned (.pointer p) ∧ IsF w' (Old w S) t p ∧ Below w.heap.size w w'
theorem grown_none {w w' : World} (h : w.grownBy w' none) : Below w.heap.size w w' := ⟨h.os, h.tape, h.output, h.size, fun b hb => h.block b hb (by simp)⟩
set_option maxRecDepth 100000 in
theorem parts_calls (ks : List Pt) (u : Value) (w : World) (S : Nat → Prop) (h : IsP w S (.node ks) u) : Calls Tryd.prog 106 #[u] w fun e w' => ∃ v, e = .returned v ∧ IsPs w S ks v ∧ w' = w := by
  obtain ⟨ad, cap, rfl, h1, h2⟩ := h.node_eq
  have HP := Lib.hid (IsPs.of h1 h2)
  clear h h1 h2
  go_enter Tryd.func106, Tryd.ntmps106
  go_wp2_with fail
  go_ret
  exact ⟨_, rfl, HP.out, rfl⟩
set_option maxRecDepth 100000 in
theorem single_calls (x : Pt) (u : Value) (w : World) (S : Nat → Prop) (h : IsP w S x u) (hm : x.items.length ≤ 4294967296) : Calls Tryd.prog 93 #[u] w fun e w' => MadeF w S (.mk [x] .nil []) e w' := by
  have HI : ∀ w2, Below w.heap.size w w2 → IsF ((w2.alloc (.cells #[u] 115)).alloc (.cells #[.int .i64 (x.items.length : Nat), .slice (some ⟨w2.heap.size, 0, none⟩) 1 1, .slice none 0 0, .pointer none] 120)) (Old w S) (.mk [x] .nil []) (some ⟨(w2.alloc (.cells #[u] 115)).heap.size, 0, none⟩) ∧ Below w.heap.size w ((w2.alloc (.cells #[u] 115)).alloc (.cells #[.int .i64 (x.items.length : Nat), .slice (some ⟨w2.heap.size, 0, none⟩) 1 1, .slice none 0 0, .pointer none] 120)) := fun w2 hb =>
    tree_new (hb.alloc hb.size _) (slice_new (l := [x]) (cs := [u]) hb ⟨u, [], rfl, h.keep (keeps_old hb), rfl⟩) (IsPs.nil _ _) (m := .nil) (q := none) rfl (by simp [Ft.items, Pt.flat])
  have HH := Lib.hid HI
  clear HI
  cases x with
  | item y =>
    obtain ⟨A, cap, rfl, _⟩ := h.item_eq
    rw [pitem_items] at HH
    clear h
    go_enter Tryd.func93, Tryd.ntmps93
    go_wp2_with (go_at_call 150; refine (itemsize_calls _ _ _ _ _).mono ?_; rintro e w2 ⟨rfl, hb2⟩)
    go_ret
    exact ⟨_, rfl, by simpa using HH.out _ hb2⟩
  | node ks =>
    obtain ⟨ad, cap, rfl, _⟩ := h.node_eq
    rw [pnode_items] at HH
    clear h
    go_enter Tryd.func93, Tryd.ntmps93
    go_wp2_with (go_at_call 151; refine (nodesize_calls _ _ _).mono ?_; rintro e w2 ⟨rfl, hb2⟩)
    go_ret
    exact ⟨_, rfl, by simpa using HH.out _ hb2⟩
set_option maxRecDepth 100000 in
set_option maxHeartbeats 4000000 in
theorem of_calls (l r : List Pt) (m : Ft) (vl vr : Value) (q : Option Addr) (w : World) (S : Nat → Prop) (h1 : IsPs w S l vl) (h2 : IsPs w S r vr) (h3 : IsF w S m q) (hm : (Ft.items (.mk l m r)).length ≤ 4294967296) (hl : l.length ≤ 65536) (hr : r.length ≤ 65536) :
    Calls Tryd.prog 95 #[vl, .pointer q, vr] w fun e w' => MadeF w S (.mk l m r) e w' := by
  have hn : (Ft.items (.mk l m r)).length = (Pt.flat l).length + m.items.length + (Pt.flat r).length := by simp [Ft.items]; omega
  rw [hn] at hm
  have b1 : ((Pt.flat l).length : Int) + (m.items.length : Int) ≤ 4294967296 := by omega
  have b2 : ((Pt.flat l).length : Int) + (m.items.length : Int) + ((Pt.flat r).length : Int) ≤ 4294967296 := by omega
  have HN : Hid (((Pt.flat l).length : Int) + (m.items.length : Int) + ((Pt.flat r).length : Int) = ((Ft.items (.mk l m r)).length : Nat)) := Lib.hid (by omega)
  have H1 := Lib.hid h1
  have H2 := Lib.hid h2
  have H3 := Lib.hid h3
  obtain ⟨Al, cl, rfl, _, _⟩ := H1.out
  obtain ⟨Ar, cr, rfl, _, _⟩ := H2.out
  have HT := Lib.hid (total_calls l _ w S h1 (by omega) (by omega))
  clear h1 h2 h3 hn
  go_enter Tryd.func95, Tryd.ntmps95
  go_wp2_with (go_at_call 103; refine HT.out.mono ?_; rintro e w2 ⟨rfl, hb2⟩; have HT2 := Lib.hid (treesize_calls m q w2 S (H3.out.below hb2)); have HT3 := Lib.hid (total_calls r _ w2 S (H2.out.below hb2) (by omega) (by omega)); clear HT)
  go_wp2_with (first
    | (go_at_call 79; refine HT2.out.mono ?_; rintro e w3 ⟨rfl, rfl⟩; clear HT2)
    | (go_at_call 103; refine HT3.out.mono ?_; rintro e w4 ⟨rfl, hb4⟩; have hb5 := below_then hb2 hb2.size hb4; clear HT3))
  go_ret
  exact ⟨_, rfl, tree_new hb5 (H1.out.keep (keeps_old hb5)) (H2.out.keep (keeps_old hb5)) (H3.out.keep (keeps_old hb5)) HN.out⟩
set_option maxRecDepth 100000 in
theorem plus_calls (l m : List Pt) (vl vm : Value) (w : World) (S : Nat → Prop) (h1 : IsPs w S l vl) (h2 : IsPs w S m vm) (hl : 0 < l.length) (hm : 0 < m.length) (hlm : l.length + m.length ≤ 65536) :
    Calls Tryd.prog 96 #[vl, vm] w fun e w' => ∃ v, e = .returned v ∧ IsPs w' (Old w S) (l ++ m) v ∧ Below w.heap.size w w' := by
  obtain ⟨ad, cap, rfl, hc, hp⟩ := h1.addr hl
  obtain ⟨ad2, cap2, rfl, hc2, hp2⟩ := h2.addr hm
  have HP := Lib.hid (hp.keep (S' := fun b => S b ∧ b < w.heap.size) fun b hb hs => ⟨⟨hs, hb⟩, rfl⟩)
  have HP2 := Lib.hid (hp2.keep (S' := fun b => S b ∧ b < w.heap.size) fun b hb hs => ⟨⟨hs, hb⟩, rfl⟩)
  clear h1 h2 hp hp2
  go_enter Tryd.func96, Tryd.ntmps96
  go_wp2_with (at_builtin; refine appendP_grow _ rfl _ _ rfl l m ad ad2 cap2 rfl rfl HP.out HP2.out hm (by omega) ?_; intro v1 w1 hown hg; have HO := Lib.hid hown; have hb := grown_none hg; clear hown)
  go_ret
  exact ⟨_, rfl, HO.out.is (fun b h => .inl h) (fun b h => .inr h), hb⟩
end Go.Proofs.YtjjbhnkplbjfeaaDoor
