/- The first place up to which a deque weighs so much. -/
import Derived.Test.YtjjbhnkplbjfeaaDoorCSpO
import Derived.Test.YtjjbhnkplbjfeaaDoorCFnY

set_option linter.unusedVariables false
set_option linter.unusedSimpArgs false
namespace Go.Proofs.YtjjbhnkplbjfeaaDoor
open Go.RowKit Go.Shelf
attribute [local go_sem] Oper.semAt_some lt_succ_of

/-- The six boxes of Find's variables. -/
def Six (W : World) (N : Nat) (m a : Int) (b : Bool) (c s i : Int) : Prop := W.heap[N]? = some (.cells #[.int .i64 m] 2 (0, 0)) ∧ W.heap[N + 1]? = some (.cells #[.int .i64 a] 3 (0, 0)) ∧ W.heap[N + 1 + 1]? = some (.cells #[.bool b] 4 (0, 0)) ∧ W.heap[N + 1 + 1 + 1]? = some (.cells #[.int .i64 c] 24 (0, 0)) ∧ W.heap[N + 1 + 1 + 1 + 1]? = some (.cells #[.int .i64 s] 2 (0, 0)) ∧ W.heap[N + 1 + 1 + 1 + 1 + 1]? = some (.cells #[.int .i64 i] 3 (0, 0))
theorem Six.new (w : World) (m : Int) : ∃ w1, (((((w.alloc (.cells #[.int .i64 m] 2)).alloc (.cells #[.int .i64 0] 3)).alloc (.cells #[.bool false] 4)).alloc (.cells #[.int .i64 0] 24)).alloc (.cells #[.int .i64 0] 2)).alloc (.cells #[.int .i64 0] 3) = w1 ∧ Six w1 w.heap.size m 0 false 0 0 0 ∧ Below w.heap.size w w1 ∧ w1.heap.size = w.heap.size + 6 := by
  refine ⟨_, rfl, ⟨?_, ?_, ?_, ?_, ?_, ?_⟩, ?_, by simp⟩
  · rw [Below.heap_alloc _ _ _ (by simp; omega), Below.heap_alloc _ _ _ (by simp; omega), Below.heap_alloc _ _ _ (by simp; omega), Below.heap_alloc _ _ _ (by simp; omega), Below.heap_alloc _ _ _ (by simp)]
    exact heap_alloc_new _ _
  · rw [Below.heap_alloc _ _ _ (by simp), Below.heap_alloc _ _ _ (by simp), Below.heap_alloc _ _ _ (by simp), Below.heap_alloc _ _ _ (by simp)]
    have := heap_alloc_new (w.alloc (.cells #[.int .i64 m] 2)) (.cells #[.int .i64 0] 3)
    simpa using this
  · rw [Below.heap_alloc _ _ _ (by simp), Below.heap_alloc _ _ _ (by simp), Below.heap_alloc _ _ _ (by simp)]
    have := heap_alloc_new ((w.alloc (.cells #[.int .i64 m] 2)).alloc (.cells #[.int .i64 0] 3)) (.cells #[.bool false] 4)
    simpa using this
  · rw [Below.heap_alloc _ _ _ (by simp), Below.heap_alloc _ _ _ (by simp)]
    have := heap_alloc_new (((w.alloc (.cells #[.int .i64 m] 2)).alloc (.cells #[.int .i64 0] 3)).alloc (.cells #[.bool false] 4)) (.cells #[.int .i64 0] 24)
    simpa using this
  · rw [Below.heap_alloc _ _ _ (by simp)]
    have := heap_alloc_new ((((w.alloc (.cells #[.int .i64 m] 2)).alloc (.cells #[.int .i64 0] 3)).alloc (.cells #[.bool false] 4)).alloc (.cells #[.int .i64 0] 24)) (.cells #[.int .i64 0] 2)
    simpa using this
  · have := heap_alloc_new (((((w.alloc (.cells #[.int .i64 m] 2)).alloc (.cells #[.int .i64 0] 3)).alloc (.cells #[.bool false] 4)).alloc (.cells #[.int .i64 0] 24)).alloc (.cells #[.int .i64 0] 2)) (.cells #[.int .i64 0] 3)
    simpa using this
  · exact alloc_of (alloc_of (alloc_of (alloc_of (alloc_of (alloc_of (Below.refl _ _) _) _) _) _) _) _
theorem Six.block {W W' : World} {N : Nat} {m a : Int} {b : Bool} {c s i : Int} (h : Six W N m a b c s i) (hb : ∀ k, N ≤ k → k < N + 6 → W'.heap[k]? = W.heap[k]?) : Six W' N m a b c s i := by
  obtain ⟨h0, h1, h2, h3, h4, h5⟩ := h
  exact ⟨(hb _ (by omega) (by omega)).trans h0, (hb _ (by omega) (by omega)).trans h1, (hb _ (by omega) (by omega)).trans h2, (hb _ (by omega) (by omega)).trans h3, (hb _ (by omega) (by omega)).trans h4, (hb _ (by omega) (by omega)).trans h5⟩
theorem Six.lt {W : World} {N : Nat} {m a : Int} {b : Bool} {c s i : Int} (h : Six W N m a b c s i) : N + 6 ≤ W.heap.size := by
  have := (Array.getElem?_eq_some_iff.1 h.2.2.2.2.2).1
  omega
theorem Six.below {W W' : World} {N : Nat} {m a : Int} {b : Bool} {c s i : Int} (h : Six W N m a b c s i) (hb : Below W.heap.size W W') : Six W' N m a b c s i := h.block fun k _ h2 => hb.block k (Nat.lt_of_lt_of_le h2 h.lt)
theorem Six.cells {W : World} {N : Nat} {m a : Int} {b : Bool} {c s i : Int} (h : Six W N m a b c s i) : W.cell? ⟨N, 0, none⟩ = some (.int .i64 m) ∧ W.cell? ⟨N + 1, 0, none⟩ = some (.int .i64 a) ∧ W.cell? ⟨N + 1 + 1, 0, none⟩ = some (.bool b) ∧ W.cell? ⟨N + 1 + 1 + 1, 0, none⟩ = some (.int .i64 c) ∧ W.cell? ⟨N + 1 + 1 + 1 + 1, 0, none⟩ = some (.int .i64 s) ∧ W.cell? ⟨N + 1 + 1 + 1 + 1 + 1, 0, none⟩ = some (.int .i64 i) := by
  obtain ⟨h0, h1, h2, h3, h4, h5⟩ := h
  exact ⟨block1 h0, block1 h1, block1 h2, block1 h3, block1 h4, block1 h5⟩
theorem Six.free {W : World} {N : Nat} {m a : Int} {b : Bool} {c s i : Int} (h : Six W N m a b c s i) : W.frozen? ⟨N + 1, 0, none⟩ = false ∧ W.frozen? ⟨N + 1 + 1, 0, none⟩ = false ∧ W.frozen? ⟨N + 1 + 1 + 1, 0, none⟩ = false ∧ W.frozen? ⟨N + 1 + 1 + 1 + 1, 0, none⟩ = false ∧ W.frozen? ⟨N + 1 + 1 + 1 + 1 + 1, 0, none⟩ = false := by
  obtain ⟨h0, h1, h2, h3, h4, h5⟩ := h
  exact ⟨free4 h1 0, free4 h2 0, free4 h3 0, free4 h4 0, free4 h5 0⟩
theorem Six.set1 {W : World} {N : Nat} {m a : Int} {b : Bool} {c s i : Int} (h : Six W N m a b c s i) (z : Int) : Six (W.setCell ⟨N + 1, 0, none⟩ (.int .i64 z)) N m z b c s i := by
  obtain ⟨h0, h1, h2, h3, h4, h5⟩ := h
  exact ⟨blockother h0 (p := ⟨N + 1, 0, none⟩) (by show (N : Nat) ≠ N + 1; omega) _, by have := blockset h1 0 (.int .i64 z); simpa using this, blockother h2 (p := ⟨N + 1, 0, none⟩) (by show (N + 1 + 1 : Nat) ≠ N + 1; omega) _, blockother h3 (p := ⟨N + 1, 0, none⟩) (by show (N + 1 + 1 + 1 : Nat) ≠ N + 1; omega) _, blockother h4 (p := ⟨N + 1, 0, none⟩) (by show (N + 1 + 1 + 1 + 1 : Nat) ≠ N + 1; omega) _, blockother h5 (p := ⟨N + 1, 0, none⟩) (by show (N + 1 + 1 + 1 + 1 + 1 : Nat) ≠ N + 1; omega) _⟩
theorem Six.set2 {W : World} {N : Nat} {m a : Int} {b : Bool} {c s i : Int} (h : Six W N m a b c s i) (z : Bool) : Six (W.setCell ⟨N + 1 + 1, 0, none⟩ (.bool z)) N m a z c s i := by
  obtain ⟨h0, h1, h2, h3, h4, h5⟩ := h
  exact ⟨blockother h0 (p := ⟨N + 1 + 1, 0, none⟩) (by show (N : Nat) ≠ N + 1 + 1; omega) _, blockother h1 (p := ⟨N + 1 + 1, 0, none⟩) (by show (N + 1 : Nat) ≠ N + 1 + 1; omega) _, by have := blockset h2 0 (.bool z); simpa using this, blockother h3 (p := ⟨N + 1 + 1, 0, none⟩) (by show (N + 1 + 1 + 1 : Nat) ≠ N + 1 + 1; omega) _, blockother h4 (p := ⟨N + 1 + 1, 0, none⟩) (by show (N + 1 + 1 + 1 + 1 : Nat) ≠ N + 1 + 1; omega) _, blockother h5 (p := ⟨N + 1 + 1, 0, none⟩) (by show (N + 1 + 1 + 1 + 1 + 1 : Nat) ≠ N + 1 + 1; omega) _⟩
theorem Six.set3 {W : World} {N : Nat} {m a : Int} {b : Bool} {c s i : Int} (h : Six W N m a b c s i) (z : Int) : Six (W.setCell ⟨N + 1 + 1 + 1, 0, none⟩ (.int .i64 z)) N m a b z s i := by
  obtain ⟨h0, h1, h2, h3, h4, h5⟩ := h
  exact ⟨blockother h0 (p := ⟨N + 1 + 1 + 1, 0, none⟩) (by show (N : Nat) ≠ N + 1 + 1 + 1; omega) _, blockother h1 (p := ⟨N + 1 + 1 + 1, 0, none⟩) (by show (N + 1 : Nat) ≠ N + 1 + 1 + 1; omega) _, blockother h2 (p := ⟨N + 1 + 1 + 1, 0, none⟩) (by show (N + 1 + 1 : Nat) ≠ N + 1 + 1 + 1; omega) _, by have := blockset h3 0 (.int .i64 z); simpa using this, blockother h4 (p := ⟨N + 1 + 1 + 1, 0, none⟩) (by show (N + 1 + 1 + 1 + 1 : Nat) ≠ N + 1 + 1 + 1; omega) _, blockother h5 (p := ⟨N + 1 + 1 + 1, 0, none⟩) (by show (N + 1 + 1 + 1 + 1 + 1 : Nat) ≠ N + 1 + 1 + 1; omega) _⟩
theorem Six.set4 {W : World} {N : Nat} {m a : Int} {b : Bool} {c s i : Int} (h : Six W N m a b c s i) (z : Int) : Six (W.setCell ⟨N + 1 + 1 + 1 + 1, 0, none⟩ (.int .i64 z)) N m a b c z i := by
  obtain ⟨h0, h1, h2, h3, h4, h5⟩ := h
  exact ⟨blockother h0 (p := ⟨N + 1 + 1 + 1 + 1, 0, none⟩) (by show (N : Nat) ≠ N + 1 + 1 + 1 + 1; omega) _, blockother h1 (p := ⟨N + 1 + 1 + 1 + 1, 0, none⟩) (by show (N + 1 : Nat) ≠ N + 1 + 1 + 1 + 1; omega) _, blockother h2 (p := ⟨N + 1 + 1 + 1 + 1, 0, none⟩) (by show (N + 1 + 1 : Nat) ≠ N + 1 + 1 + 1 + 1; omega) _, blockother h3 (p := ⟨N + 1 + 1 + 1 + 1, 0, none⟩) (by show (N + 1 + 1 + 1 : Nat) ≠ N + 1 + 1 + 1 + 1; omega) _, by have := blockset h4 0 (.int .i64 z); simpa using this, blockother h5 (p := ⟨N + 1 + 1 + 1 + 1, 0, none⟩) (by show (N + 1 + 1 + 1 + 1 + 1 : Nat) ≠ N + 1 + 1 + 1 + 1; omega) _⟩
theorem Six.set5 {W : World} {N : Nat} {m a : Int} {b : Bool} {c s i : Int} (h : Six W N m a b c s i) (z : Int) : Six (W.setCell ⟨N + 1 + 1 + 1 + 1 + 1, 0, none⟩ (.int .i64 z)) N m a b c s z := by
  obtain ⟨h0, h1, h2, h3, h4, h5⟩ := h
  exact ⟨blockother h0 (p := ⟨N + 1 + 1 + 1 + 1 + 1, 0, none⟩) (by show (N : Nat) ≠ N + 1 + 1 + 1 + 1 + 1; omega) _, blockother h1 (p := ⟨N + 1 + 1 + 1 + 1 + 1, 0, none⟩) (by show (N + 1 : Nat) ≠ N + 1 + 1 + 1 + 1 + 1; omega) _, blockother h2 (p := ⟨N + 1 + 1 + 1 + 1 + 1, 0, none⟩) (by show (N + 1 + 1 : Nat) ≠ N + 1 + 1 + 1 + 1 + 1; omega) _, blockother h3 (p := ⟨N + 1 + 1 + 1 + 1 + 1, 0, none⟩) (by show (N + 1 + 1 + 1 : Nat) ≠ N + 1 + 1 + 1 + 1 + 1; omega) _, blockother h4 (p := ⟨N + 1 + 1 + 1 + 1 + 1, 0, none⟩) (by show (N + 1 + 1 + 1 + 1 : Nat) ≠ N + 1 + 1 + 1 + 1 + 1; omega) _, by have := blockset h5 0 (.int .i64 z); simpa using this⟩
theorem keepsFrom_set {B : Nat} {W W' : World} (h : KeepsFrom B W W') {p : Addr} (hp : p.block < B) (v : Value) : KeepsFrom B W (W'.setCell p v) := ⟨by simpa using h.size, fun k o hk ho hoc => (Below.heap_setCell _ _ _ _ (by omega)).trans (h.same k o hk ho hoc)⟩
theorem still_set {T : Nat → Prop} {W W' : World} (h : Still T W W') {p : Addr} (hp : ¬ T p.block) (v : Value) : Still T W (W'.setCell p v) := ⟨by simpa using h.1, fun b hb => (Below.heap_setCell _ _ _ _ (fun e => hp (e ▸ hb))).trans (h.2 b hb)⟩
theorem weight_snoc (l : List V) (x : V) : weightV (l ++ [x]) = weightV l + heftV x := by rw [weight_append]; simp [weightV]
set_option maxRecDepth 100000 in
set_option maxHeartbeats 8000000 in
theorem find_calls (l : List V) (p : Option Addr) (m : Int) (w : World) (S0 : Nat → Prop) (hr : IsD w S0 l p) (hm : ¬ m < 0) :
    Calls Tryd.prog 39 #[.pointer p, .int .i64 m] w fun e w' => ∃ (n : Nat) (ok : Bool), e = .returned (.tuple #[.int .i64 n, .bool ok, .int .i64 0]) ∧ Found l m n ok ∧ Below w.heap.size w w' := by
  refine (callsIn_wide (n := 9)).1 ?_
  have hl65 := hr.1
  have hrS : IsD w (fun b => S0 b ∧ b < w.heap.size) l p := hr.keep fun b hb hs => ⟨⟨hs, hb⟩, rfl⟩
  clear hr
  refine callsIn_of_wp_marks Tryd.func39 rfl trivial ?_ rfl
  simp only [Tryd.ntmps39, List.size_toArray, List.length_cons, List.length_nil, Nat.reduceAdd, Nat.reduceSub, Array.replicate_succ, Array.replicate_zero, List.push_toArray, List.append_toArray, List.nil_append, List.cons_append]
  have d1 : decide (m < 0) = false := decide_eq_false hm
  obtain ⟨w0, hw0, hK0, hB0, hsz0⟩ := Six.new w m
  obtain ⟨c0, _, _, _, c4, c5⟩ := hK0.cells
  obtain ⟨_, _, _, f4, f5⟩ := hK0.free
  obtain ⟨w1, hw1, hK, hB1, hsz⟩ : ∃ w1, (w0.setCell ⟨w.heap.size + 1 + 1 + 1 + 1, 0, none⟩ (.int .i64 0)).setCell ⟨w.heap.size + 1 + 1 + 1 + 1 + 1, 0, none⟩ (.int .i64 0) = w1 ∧ Six w1 w.heap.size m 0 false 0 0 0 ∧ Below w.heap.size w w1 ∧ w1.heap.size = w.heap.size + 6 := ⟨_, rfl, (hK0.set4 0).set5 0, (hB0.setCell (by simp; omega) _).setCell (by simp; omega) _, by simpa using hsz0⟩
  have HC := Lib.hid (callsIn_wide (n := 8).2 (all_calls p w1))
  have K := Lib.hid hK
  have HM := Lib.hid hm
  clear hK hm hK0
  gi_wp2_with (first | (refine ⟨trivial, ?_⟩; gi_at_call 69; refine HC.out.mono ?_; rintro e w2 ⟨rfl, hX, hb2⟩; have HX := Lib.hid hX; clear hX))
  have hsz2 := hb2.size
  rw [hsz] at HX hsz2
  have hB2 : Below w.heap.size w w2 := below_then hB1 hB1.size hb2
  refine range_law 9 (gf := 100) (lb := #[.pointer (some ⟨w.heap.size + 6, 0, none⟩)]) rfl enters_all (G := l) (S := fun b => S0 b ∧ b < w.heap.size)
    (all_each l p _ _ w2 HX.out (hrS.below hB2)) rfl
    (fun T pre W => Six W w.heap.size m 0 false 0 (weightV pre) pre.length ∧ (∀ k, k ≤ pre.length → weightV (pre.take k) ≤ m) ∧ (∀ b, T b → (b < w.heap.size ∨ w.heap.size + 6 ≤ b) ∧ b < W.heap.size) ∧ Below w.heap.size w W ∧ w2.heap.size ≤ W.heap.size)
    (fun c pre W => c = .ret ∧ ∃ n : Nat, pre.length = n + 1 ∧ m < weightV pre ∧ (∀ k, k ≤ n → weightV (pre.take k) ≤ m) ∧ (∃ s i, Six W w.heap.size m n true 0 s i) ∧ Below w.heap.size w W ∧ w2.heap.size ≤ W.heap.size) ?hI ?hIx ?start ?round ?done ?stop
  case start =>
    intro T W hb hsz3 hT
    refine ⟨(K.out.below hb2).below hb, fun k hk => ?_, fun b h => ?_, below_then hB2 hB2.size hb, by omega⟩
    · have := HM.out
      simp only [List.take_nil, weightV]
      omega
    · have := hT b h
      omega
  case hI =>
    rintro T s W W' ⟨h6, hq, hT, hbel, hsz3⟩ hg
    exact ⟨h6.block fun k h1 h2 => hg.block k (Nat.lt_of_lt_of_le h2 h6.lt) (fun e => by injection e with e; omega), hq, fun b hb => ⟨(hT b hb).1, Nat.lt_of_lt_of_le (hT b hb).2 hg.size⟩, hbel.grown hg hbel.size (fun k hk => by injection hk with hk; omega), Nat.le_trans hsz3 hg.size⟩
  case hIx =>
    rintro c s W W' ⟨q0, n, hln, hgt, hq, ⟨s1, i1, h6⟩, hbel, hsz3⟩ hg
    exact ⟨q0, n, hln, hgt, hq, ⟨s1, i1, h6.block fun k h1 h2 => hg.block k (Nat.lt_of_lt_of_le h2 h6.lt) (fun e => by injection e with e; omega)⟩, hbel.grown hg hbel.size (fun k hk => by injection hk with hk; omega), Nat.le_trans hsz3 hg.size⟩
  case round =>
    rintro T l0 pre x v W0 W n9 ⟨_, hq, _, _, _⟩ hW hszW hv hpre
    obtain ⟨hbd, A, cap, rfl, hcap, hLA⟩ := hv.eq
    gi_wp2
    refine ⟨(Below.refl _ _).alloc (Nat.le_refl _) _, ?_⟩
    rintro Wb hgb ⟨h6, _, hTb, hbelb, hszb⟩
    have hsW := hW.size
    have hbx : Wb.heap[W.heap.size]? = some (.cells #[.int .i64 x.kind, .int .i64 x.num, .string x.text, .slice A x.items.length cap] 33 (0, 0)) := (hgb.block W.heap.size (by simp) (fun e => by injection e with e; omega)).trans (heap_alloc_new W _)
    have hlen : pre.length + 1 ≤ l.length := by
      have h1 := hpre.length_le
      rwa [List.length_append] at h1
    have hX := hv.keep (w' := Wb) (S' := fun _ => True) ((Keeps.alloc _).trans (Keeps.grown hgb fun k e (h : W0.heap.size ≤ k) => by injection e with e; omega) |>.trans (Keeps.weak fun _ _ => trivial))
    have hr := heft_range x
    have hr2 := weight_range pre
    have i1 : IntKind.i64.wrap (weightV pre + heftV x) = weightV pre + heftV x := IntWalk.i64_in _ (by omega)
    have i2 : IntKind.i64.wrap ((pre.length : Int) + 1) = (pre.length : Int) + 1 := IntWalk.i64_in _ (by omega)
    obtain ⟨x0, x1, x2, x3⟩ := block4 hbx
    obtain ⟨c0, c1, c2, c3, c4, c5⟩ := h6.cells
    have HX := Lib.hid hX
    have H6 := Lib.hid h6
    have HQ := Lib.hid hq
    have HT := Lib.hid hTb
    have HB := Lib.hid hbelb
    clear hX h6 hq hTb hbelb hbd hLA hv hr hr2 hgb hbx
    gi_wp2
    refine wpIn_region_any (by kernel_rfl) ?_
    change wpAnyIn _ _ _ _ _ _ _ _ _ (World.drew _)
    refine wpAnyIn_ready (rs := [0, 1]) (by kernel_rfl) (by simp) ?_
    refine AllReadyIn.cons rfl (fun K hK => ?_) ?_
    · go_simp
      refine hK _ _ ?_
      clear hK K
      refine wpAnyIn_ready (rs := [1]) (by kernel_rfl) (by simp) ?_
      refine AllReadyIn.cons rfl (fun K hK => ?_) AllReadyIn.nil
      go_simp
      refine hK _ _ ?_
      clear hK K
      refine wpAnyIn_ready (rs := [2]) (by kernel_rfl) (by simp) ?_
      refine AllReadyIn.cons rfl (fun K hK => ?_) AllReadyIn.nil
      go_simp
      refine ⟨trivial, (fun h => by cases h), ?_⟩
      refine (CallsIn.inRound l0 (callsIn_wide.2 (heft_calls x _ _ _ (HX.out.below (drew_of (Below.refl _ _)))))).mono ?_
      rintro e w3 ⟨rfl, hb3'⟩
      have hb3 := chain_then (drew_of (Below.refl _ _)) hb3'
      have H63 := Lib.hid (H6.out.below hb3)
      obtain ⟨g0, g1, g2, g3, g4, g5⟩ := H63.out.cells
      obtain ⟨_, _, _, f4, f5⟩ := H63.out.free
      refine hK _ _ ?_
      clear hK K
      refine wpAnyIn_ready (rs := [3]) (by kernel_rfl) (by simp) ?_
      refine AllReadyIn.cons rfl (fun K hK => ?_) AllReadyIn.nil
      go_simp
      refine hK _ _ ?_
      clear hK K
      refine wpAnyIn_ready (rs := [4]) (by kernel_rfl) (by simp) ?_
      refine AllReadyIn.cons rfl (fun K hK => ?_) AllReadyIn.nil
      go_simp
      refine hK _ _ ?_
      clear hK K
      refine wpAnyIn_done (by kernel_rfl) ?_ _
      obtain ⟨w4, hw4, h64⟩ : ∃ w4, w3.setCell ⟨w.heap.size + 1 + 1 + 1 + 1, 0, none⟩ (.int .i64 (weightV pre + heftV x)) = w4 ∧ Six w4 w.heap.size m 0 false 0 (weightV pre + heftV x) pre.length := ⟨_, rfl, H63.out.set4 _⟩
      rw [hw4]
      have H64 := Lib.hid h64
      obtain ⟨k0, k1, k2, k3, k4, k5⟩ := h64.cells
      obtain ⟨z1, z2, z3, z4, z5⟩ := h64.free
      have HW4 := Lib.hid hw4
      have HB3 := Lib.hid hb3
      clear h64 hw4 c0 c1 c2 c3 c4 c5 g0 g1 g2 g3 g4 g5 f4 f5 x0 x1 x2 x3 hb3'
      by_cases hgt : m < weightV pre + heftV x
      · have d2 : decide (m < weightV pre + heftV x) = true := decide_eq_true hgt
        gi_wp2
        obtain ⟨w5, hw5, h65⟩ : ∃ w5, ((w4.setCell ⟨w.heap.size + 1, 0, none⟩ (.int .i64 (pre.length : Int))).setCell ⟨w.heap.size + 1 + 1, 0, none⟩ (.bool true)).setCell ⟨w.heap.size + 1 + 1 + 1, 0, none⟩ (.int .i64 0) = w5 ∧ Six w5 w.heap.size m pre.length true 0 (weightV pre + heftV x) pre.length := ⟨_, rfl, ((H64.out.set1 _).set2 _).set3 _⟩
        rw [hw5]
        refine ⟨?_, rfl, pre.length, by simp, by rw [weight_snoc]; exact hgt, fun k hk => by rw [List.take_append_of_le_length hk]; exact HQ.out k hk, ⟨_, _, h65⟩, ?_, ?_⟩
        · rw [← hw5, ← HW4.out]
          exact keepsFrom_set (keepsFrom_set (keepsFrom_set (keepsFrom_set (keepsFrom_below HB3.out) (by show w.heap.size + 1 + 1 + 1 + 1 < _; omega) _) (by show w.heap.size + 1 < _; omega) _) (by show w.heap.size + 1 + 1 < _; omega) _) (by show w.heap.size + 1 + 1 + 1 < _; omega) _
        · rw [← hw5, ← HW4.out]
          exact ((((chain_then HB.out HB3.out).setCell (by show w.heap.size ≤ w.heap.size + 1 + 1 + 1 + 1; omega) _).setCell (by show w.heap.size ≤ w.heap.size + 1; omega) _).setCell (by show w.heap.size ≤ w.heap.size + 1 + 1; omega) _).setCell (by show w.heap.size ≤ w.heap.size + 1 + 1 + 1; omega) _
        · rw [← hw5, ← HW4.out]
          simp only [World.size_setCell]
          exact Nat.le_trans hszb HB3.out.size
      · have d2 : decide (m < weightV pre + heftV x) = false := decide_eq_false hgt
        gi_wp2
        obtain ⟨w5, hw5, h65⟩ : ∃ w5, w4.setCell ⟨w.heap.size + 1 + 1 + 1 + 1 + 1, 0, none⟩ (.int .i64 ((pre.length : Int) + 1)) = w5 ∧ Six w5 w.heap.size m 0 false 0 (weightV pre + heftV x) ((pre.length : Int) + 1) := ⟨_, rfl, H64.out.set5 _⟩
        rw [hw5]
        have hsz5 : w5.heap.size = w3.heap.size := by rw [← hw5, ← HW4.out]; simp
        refine ⟨?_, ?_, by rw [weight_snoc, List.length_append]; exact h65, fun k hk => ?_, fun b hb => ⟨(HT.out b hb).1, by have := (HT.out b hb).2; have := HB3.out.size; omega⟩, ?_, by have := HB3.out.size; omega⟩
        · rw [← hw5, ← HW4.out]
          exact keepsFrom_set (keepsFrom_set (keepsFrom_below HB3.out) (by show w.heap.size + 1 + 1 + 1 + 1 < _; omega) _) (by show w.heap.size + 1 + 1 + 1 + 1 + 1 < _; omega) _
        · rw [← hw5, ← HW4.out]
          exact still_set (still_set (Still.below HB3.out fun b hb => (HT.out b hb).2) (fun hb => by have : w.heap.size + 1 + 1 + 1 + 1 < w.heap.size ∨ w.heap.size + 6 ≤ w.heap.size + 1 + 1 + 1 + 1 := (HT.out _ hb).1; omega) _) (fun hb => by have : w.heap.size + 1 + 1 + 1 + 1 + 1 < w.heap.size ∨ w.heap.size + 6 ≤ w.heap.size + 1 + 1 + 1 + 1 + 1 := (HT.out _ hb).1; omega) _
        · by_cases hk2 : k ≤ pre.length
          · rw [List.take_append_of_le_length hk2]; exact HQ.out k hk2
          · rw [List.take_of_length_le (by simp at hk ⊢; omega), weight_snoc]
            omega
        · rw [← hw5, ← HW4.out]
          exact ((chain_then HB.out HB3.out).setCell (by show w.heap.size ≤ w.heap.size + 1 + 1 + 1 + 1; omega) _).setCell (by show w.heap.size ≤ w.heap.size + 1 + 1 + 1 + 1 + 1; omega) _
    refine AllReadyIn.cons rfl (fun K hK => ?_) AllReadyIn.nil
    go_simp
    refine hK _ _ ?_
    clear hK K
    refine wpAnyIn_ready (rs := [0, 2]) (by kernel_rfl) (by simp) ?_
    refine AllReadyIn.cons rfl (fun K hK => ?_) ?_
    · go_simp
      refine hK _ _ ?_
      clear hK K
      refine wpAnyIn_ready (rs := [2]) (by kernel_rfl) (by simp) ?_
      refine AllReadyIn.cons rfl (fun K hK => ?_) AllReadyIn.nil
      go_simp
      refine ⟨trivial, (fun h => by cases h), ?_⟩
      refine (CallsIn.inRound l0 (callsIn_wide.2 (heft_calls x _ _ _ (HX.out.below (drew_of (Below.refl _ _)))))).mono ?_
      rintro e w3 ⟨rfl, hb3'⟩
      have hb3 := chain_then (drew_of (Below.refl _ _)) hb3'
      have H63 := Lib.hid (H6.out.below hb3)
      obtain ⟨g0, g1, g2, g3, g4, g5⟩ := H63.out.cells
      obtain ⟨_, _, _, f4, f5⟩ := H63.out.free
      refine hK _ _ ?_
      clear hK K
      refine wpAnyIn_ready (rs := [3]) (by kernel_rfl) (by simp) ?_
      refine AllReadyIn.cons rfl (fun K hK => ?_) AllReadyIn.nil
      go_simp
      refine hK _ _ ?_
      clear hK K
      refine wpAnyIn_ready (rs := [4]) (by kernel_rfl) (by simp) ?_
      refine AllReadyIn.cons rfl (fun K hK => ?_) AllReadyIn.nil
      go_simp
      refine hK _ _ ?_
      clear hK K
      refine wpAnyIn_done (by kernel_rfl) ?_ _
      obtain ⟨w4, hw4, h64⟩ : ∃ w4, w3.setCell ⟨w.heap.size + 1 + 1 + 1 + 1, 0, none⟩ (.int .i64 (weightV pre + heftV x)) = w4 ∧ Six w4 w.heap.size m 0 false 0 (weightV pre + heftV x) pre.length := ⟨_, rfl, H63.out.set4 _⟩
      rw [hw4]
      have H64 := Lib.hid h64
      obtain ⟨k0, k1, k2, k3, k4, k5⟩ := h64.cells
      obtain ⟨z1, z2, z3, z4, z5⟩ := h64.free
      have HW4 := Lib.hid hw4
      have HB3 := Lib.hid hb3
      clear h64 hw4 c0 c1 c2 c3 c4 c5 g0 g1 g2 g3 g4 g5 f4 f5 x0 x1 x2 x3 hb3'
      by_cases hgt : m < weightV pre + heftV x
      · have d2 : decide (m < weightV pre + heftV x) = true := decide_eq_true hgt
        gi_wp2
        obtain ⟨w5, hw5, h65⟩ : ∃ w5, ((w4.setCell ⟨w.heap.size + 1, 0, none⟩ (.int .i64 (pre.length : Int))).setCell ⟨w.heap.size + 1 + 1, 0, none⟩ (.bool true)).setCell ⟨w.heap.size + 1 + 1 + 1, 0, none⟩ (.int .i64 0) = w5 ∧ Six w5 w.heap.size m pre.length true 0 (weightV pre + heftV x) pre.length := ⟨_, rfl, ((H64.out.set1 _).set2 _).set3 _⟩
        rw [hw5]
        refine ⟨?_, rfl, pre.length, by simp, by rw [weight_snoc]; exact hgt, fun k hk => by rw [List.take_append_of_le_length hk]; exact HQ.out k hk, ⟨_, _, h65⟩, ?_, ?_⟩
        · rw [← hw5, ← HW4.out]
          exact keepsFrom_set (keepsFrom_set (keepsFrom_set (keepsFrom_set (keepsFrom_below HB3.out) (by show w.heap.size + 1 + 1 + 1 + 1 < _; omega) _) (by show w.heap.size + 1 < _; omega) _) (by show w.heap.size + 1 + 1 < _; omega) _) (by show w.heap.size + 1 + 1 + 1 < _; omega) _
        · rw [← hw5, ← HW4.out]
          exact ((((chain_then HB.out HB3.out).setCell (by show w.heap.size ≤ w.heap.size + 1 + 1 + 1 + 1; omega) _).setCell (by show w.heap.size ≤ w.heap.size + 1; omega) _).setCell (by show w.heap.size ≤ w.heap.size + 1 + 1; omega) _).setCell (by show w.heap.size ≤ w.heap.size + 1 + 1 + 1; omega) _
        · rw [← hw5, ← HW4.out]
          simp only [World.size_setCell]
          exact Nat.le_trans hszb HB3.out.size
      · have d2 : decide (m < weightV pre + heftV x) = false := decide_eq_false hgt
        gi_wp2
        obtain ⟨w5, hw5, h65⟩ : ∃ w5, w4.setCell ⟨w.heap.size + 1 + 1 + 1 + 1 + 1, 0, none⟩ (.int .i64 ((pre.length : Int) + 1)) = w5 ∧ Six w5 w.heap.size m 0 false 0 (weightV pre + heftV x) ((pre.length : Int) + 1) := ⟨_, rfl, H64.out.set5 _⟩
        rw [hw5]
        have hsz5 : w5.heap.size = w3.heap.size := by rw [← hw5, ← HW4.out]; simp
        refine ⟨?_, ?_, by rw [weight_snoc, List.length_append]; exact h65, fun k hk => ?_, fun b hb => ⟨(HT.out b hb).1, by have := (HT.out b hb).2; have := HB3.out.size; omega⟩, ?_, by have := HB3.out.size; omega⟩
        · rw [← hw5, ← HW4.out]
          exact keepsFrom_set (keepsFrom_set (keepsFrom_below HB3.out) (by show w.heap.size + 1 + 1 + 1 + 1 < _; omega) _) (by show w.heap.size + 1 + 1 + 1 + 1 + 1 < _; omega) _
        · rw [← hw5, ← HW4.out]
          exact still_set (still_set (Still.below HB3.out fun b hb => (HT.out b hb).2) (fun hb => by have : w.heap.size + 1 + 1 + 1 + 1 < w.heap.size ∨ w.heap.size + 6 ≤ w.heap.size + 1 + 1 + 1 + 1 := (HT.out _ hb).1; omega) _) (fun hb => by have : w.heap.size + 1 + 1 + 1 + 1 + 1 < w.heap.size ∨ w.heap.size + 6 ≤ w.heap.size + 1 + 1 + 1 + 1 + 1 := (HT.out _ hb).1; omega) _
        · by_cases hk2 : k ≤ pre.length
          · rw [List.take_append_of_le_length hk2]; exact HQ.out k hk2
          · rw [List.take_of_length_le (by simp at hk ⊢; omega), weight_snoc]
            omega
        · rw [← hw5, ← HW4.out]
          exact ((chain_then HB.out HB3.out).setCell (by show w.heap.size ≤ w.heap.size + 1 + 1 + 1 + 1; omega) _).setCell (by show w.heap.size ≤ w.heap.size + 1 + 1 + 1 + 1 + 1; omega) _
    refine AllReadyIn.cons rfl (fun K hK => ?_) AllReadyIn.nil
    go_simp
    refine ⟨trivial, (fun h => by cases h), ?_⟩
    refine (CallsIn.inRound l0 (callsIn_wide.2 (heft_calls x _ _ _ (HX.out.below (drew_of (Below.refl _ _)))))).mono ?_
    rintro e w3 ⟨rfl, hb3'⟩
    have hb3 := chain_then (drew_of (Below.refl _ _)) hb3'
    have H63 := Lib.hid (H6.out.below hb3)
    obtain ⟨g0, g1, g2, g3, g4, g5⟩ := H63.out.cells
    obtain ⟨_, _, _, f4, f5⟩ := H63.out.free
    refine hK _ _ ?_
    clear hK K
    refine wpAnyIn_ready (rs := [0]) (by kernel_rfl) (by simp) ?_
    refine AllReadyIn.cons rfl (fun K hK => ?_) AllReadyIn.nil
    go_simp
    refine hK _ _ ?_
    clear hK K
    refine wpAnyIn_ready (rs := [3]) (by kernel_rfl) (by simp) ?_
    refine AllReadyIn.cons rfl (fun K hK => ?_) AllReadyIn.nil
    go_simp
    refine hK _ _ ?_
    clear hK K
    refine wpAnyIn_ready (rs := [4]) (by kernel_rfl) (by simp) ?_
    refine AllReadyIn.cons rfl (fun K hK => ?_) AllReadyIn.nil
    go_simp
    refine hK _ _ ?_
    clear hK K
    refine wpAnyIn_done (by kernel_rfl) ?_ _
    obtain ⟨w4, hw4, h64⟩ : ∃ w4, w3.setCell ⟨w.heap.size + 1 + 1 + 1 + 1, 0, none⟩ (.int .i64 (weightV pre + heftV x)) = w4 ∧ Six w4 w.heap.size m 0 false 0 (weightV pre + heftV x) pre.length := ⟨_, rfl, H63.out.set4 _⟩
    rw [hw4]
    have H64 := Lib.hid h64
    obtain ⟨k0, k1, k2, k3, k4, k5⟩ := h64.cells
    obtain ⟨z1, z2, z3, z4, z5⟩ := h64.free
    have HW4 := Lib.hid hw4
    have HB3 := Lib.hid hb3
    clear h64 hw4 c0 c1 c2 c3 c4 c5 g0 g1 g2 g3 g4 g5 f4 f5 x0 x1 x2 x3 hb3'
    by_cases hgt : m < weightV pre + heftV x
    · have d2 : decide (m < weightV pre + heftV x) = true := decide_eq_true hgt
      gi_wp2
      obtain ⟨w5, hw5, h65⟩ : ∃ w5, ((w4.setCell ⟨w.heap.size + 1, 0, none⟩ (.int .i64 (pre.length : Int))).setCell ⟨w.heap.size + 1 + 1, 0, none⟩ (.bool true)).setCell ⟨w.heap.size + 1 + 1 + 1, 0, none⟩ (.int .i64 0) = w5 ∧ Six w5 w.heap.size m pre.length true 0 (weightV pre + heftV x) pre.length := ⟨_, rfl, ((H64.out.set1 _).set2 _).set3 _⟩
      rw [hw5]
      refine ⟨?_, rfl, pre.length, by simp, by rw [weight_snoc]; exact hgt, fun k hk => by rw [List.take_append_of_le_length hk]; exact HQ.out k hk, ⟨_, _, h65⟩, ?_, ?_⟩
      · rw [← hw5, ← HW4.out]
        exact keepsFrom_set (keepsFrom_set (keepsFrom_set (keepsFrom_set (keepsFrom_below HB3.out) (by show w.heap.size + 1 + 1 + 1 + 1 < _; omega) _) (by show w.heap.size + 1 < _; omega) _) (by show w.heap.size + 1 + 1 < _; omega) _) (by show w.heap.size + 1 + 1 + 1 < _; omega) _
      · rw [← hw5, ← HW4.out]
        exact ((((chain_then HB.out HB3.out).setCell (by show w.heap.size ≤ w.heap.size + 1 + 1 + 1 + 1; omega) _).setCell (by show w.heap.size ≤ w.heap.size + 1; omega) _).setCell (by show w.heap.size ≤ w.heap.size + 1 + 1; omega) _).setCell (by show w.heap.size ≤ w.heap.size + 1 + 1 + 1; omega) _
      · rw [← hw5, ← HW4.out]
        simp only [World.size_setCell]
        exact Nat.le_trans hszb HB3.out.size
    · have d2 : decide (m < weightV pre + heftV x) = false := decide_eq_false hgt
      gi_wp2
      obtain ⟨w5, hw5, h65⟩ : ∃ w5, w4.setCell ⟨w.heap.size + 1 + 1 + 1 + 1 + 1, 0, none⟩ (.int .i64 ((pre.length : Int) + 1)) = w5 ∧ Six w5 w.heap.size m 0 false 0 (weightV pre + heftV x) ((pre.length : Int) + 1) := ⟨_, rfl, H64.out.set5 _⟩
      rw [hw5]
      have hsz5 : w5.heap.size = w3.heap.size := by rw [← hw5, ← HW4.out]; simp
      refine ⟨?_, ?_, by rw [weight_snoc, List.length_append]; exact h65, fun k hk => ?_, fun b hb => ⟨(HT.out b hb).1, by have := (HT.out b hb).2; have := HB3.out.size; omega⟩, ?_, by have := HB3.out.size; omega⟩
      · rw [← hw5, ← HW4.out]
        exact keepsFrom_set (keepsFrom_set (keepsFrom_below HB3.out) (by show w.heap.size + 1 + 1 + 1 + 1 < _; omega) _) (by show w.heap.size + 1 + 1 + 1 + 1 + 1 < _; omega) _
      · rw [← hw5, ← HW4.out]
        exact still_set (still_set (Still.below HB3.out fun b hb => (HT.out b hb).2) (fun hb => by have : w.heap.size + 1 + 1 + 1 + 1 < w.heap.size ∨ w.heap.size + 6 ≤ w.heap.size + 1 + 1 + 1 + 1 := (HT.out _ hb).1; omega) _) (fun hb => by have : w.heap.size + 1 + 1 + 1 + 1 + 1 < w.heap.size ∨ w.heap.size + 6 ≤ w.heap.size + 1 + 1 + 1 + 1 + 1 := (HT.out _ hb).1; omega) _
      · by_cases hk2 : k ≤ pre.length
        · rw [List.take_append_of_le_length hk2]; exact HQ.out k hk2
        · rw [List.take_of_length_le (by simp at hk ⊢; omega), weight_snoc]
          omega
      · rw [← hw5, ← HW4.out]
        exact ((chain_then HB.out HB3.out).setCell (by show w.heap.size ≤ w.heap.size + 1 + 1 + 1 + 1; omega) _).setCell (by show w.heap.size ≤ w.heap.size + 1 + 1 + 1 + 1 + 1; omega) _
  case done =>
    rintro T D W hD ⟨h6, hq, _, hbel, hszD⟩ hK
    obtain ⟨c0, c1, c2, c3, c4, c5⟩ := h6.cells
    obtain ⟨z1, z2, z3, z4, z5⟩ := h6.free
    have H6 := Lib.hid h6
    have HF : Hid (Found l m 0 false) := Lib.hid (.inr ⟨rfl, rfl, hq⟩)
    have hlen := (Array.getElem?_eq_some_iff.1 h6.2.2.2.2.2).1
    clear h6 hq
    obtain ⟨W5, hw5, h65⟩ : ∃ W5, ((W.setCell ⟨w.heap.size + 1, 0, none⟩ (.int .i64 0)).setCell ⟨w.heap.size + 1 + 1, 0, none⟩ (.bool false)).setCell ⟨w.heap.size + 1 + 1 + 1, 0, none⟩ (.int .i64 0) = W5 ∧ Six W5 w.heap.size m 0 false 0 (weightV l) l.length := ⟨_, rfl, ((H6.out.set1 _).set2 _).set3 _⟩
    have hK5 : W5.heap[D]? = some (.deferred (some [])) := by
      rw [← hw5, Below.heap_setCell _ _ _ _ (by show D ≠ w.heap.size + 1 + 1 + 1; omega), Below.heap_setCell _ _ _ _ (by show D ≠ w.heap.size + 1 + 1; omega), Below.heap_setCell _ _ _ _ (by show D ≠ w.heap.size + 1; omega)]
      exact hK
    have hb5 : Below w.heap.size w W5 := by
      rw [← hw5]
      exact ((hbel.setCell (by show w.heap.size ≤ w.heap.size + 1; omega) _).setCell (by show w.heap.size ≤ w.heap.size + 1 + 1; omega) _).setCell (by show w.heap.size ≤ w.heap.size + 1 + 1 + 1; omega) _
    have HW5 := Lib.hid hw5
    clear hw5
    gi_wp2
    rw [HW5.out]
    refine ⟨by simp, .inl ⟨_, _, rfl, run_takeDeferred hK5, ?_⟩⟩
    have hg := grownBy_putObj' W5 D (.deferred none)
    have h66 : Six (W5.putObj D (.deferred none)) w.heap.size m 0 false 0 (weightV l) l.length := h65.block fun k h1 h2 => hg.block k (Nat.lt_of_lt_of_le h2 h65.lt) (fun e => by injection e with e; omega)
    obtain ⟨c0, c1, c2, c3, c4, c5⟩ := h66.cells
    exact ⟨.tuple #[.int .i64 0, .bool false, .int .i64 0], by simp [results, Tryd.results39, go_sem, c1, c2, c3], 0, false, rfl, HF.out, hb5.grown hg hb5.size (fun k hk => by injection hk with hk; omega)⟩
  case stop =>
    rintro D c pre W hD hpre ⟨rfl, n, hln, hgt, hq, ⟨s, i, h6⟩, hbel, hszD⟩ hK
    have hF : Found l m n true := by
      have hlp : pre = l.take (n + 1) := by rw [← hln]; exact List.prefix_iff_eq_take.1 hpre
      have h1 := hpre.length_le
      refine .inl ⟨rfl, by omega, by rw [← hlp]; exact hgt, fun k hk => ?_⟩
      have := hq k hk
      rw [hlp, List.take_take, Nat.min_eq_left (by omega)] at this
      exact this
    obtain ⟨c0, c1, c2, c3, c4, c5⟩ := h6.cells
    obtain ⟨z1, z2, z3, z4, z5⟩ := h6.free
    have H6 := Lib.hid h6
    have HF := Lib.hid hF
    have hlen := (Array.getElem?_eq_some_iff.1 h6.2.2.2.2.2).1
    clear h6 hq hF hgt hln
    gi_wp2
    refine ⟨by simp, .inl ⟨_, _, rfl, run_takeDeferred hK, ?_⟩⟩
    have hg := grownBy_putObj' W D (.deferred none)
    have h66 : Six (W.putObj D (.deferred none)) w.heap.size m n true 0 s i := H6.out.block fun k h1 h2 => hg.block k (Nat.lt_of_lt_of_le h2 H6.out.lt) (fun e => by injection e with e; omega)
    obtain ⟨c0, c1, c2, c3, c4, c5⟩ := h66.cells
    exact ⟨.tuple #[.int .i64 n, .bool true, .int .i64 0], by simp [results, Tryd.results39, go_sem, c1, c2, c3], n, true, rfl, HF.out, hbel.grown hg hbel.size (fun k hk => by injection hk with hk; omega)⟩
set_option maxRecDepth 100000 in
set_option maxHeartbeats 8000000 in
theorem find_bad (p : Option Addr) (m : Int) (w : World) (hm : m < 0) :
    Calls Tryd.prog 39 #[.pointer p, .int .i64 m] w fun e w' => e = .returned (.tuple #[.int .i64 0, .bool false, .int .i64 1]) ∧ Below w.heap.size w w' := by
  refine (callsIn_wide (n := 9)).1 ?_
  refine callsIn_of_wp_marks Tryd.func39 rfl trivial ?_ rfl
  simp only [Tryd.ntmps39, List.size_toArray, List.length_cons, List.length_nil, Nat.reduceAdd, Nat.reduceSub, Array.replicate_succ, Array.replicate_zero, List.push_toArray, List.append_toArray, List.nil_append, List.cons_append]
  have d1 : decide (m < 0) = true := decide_eq_true hm
  gi_wp2_with fail
  obtain ⟨w4, hw4, hb4, h1, h2, h3⟩ : ∃ w4, ((((w.alloc (.cells #[.int .i64 m] 2)).alloc (.cells #[.int .i64 0] 3)).alloc (.cells #[.bool false] 4)).alloc (.cells #[.int .i64 1] 24)) = w4 ∧ Below w.heap.size w w4 ∧ w4.cell? ⟨w.heap.size + 1, 0, none⟩ = some (.int .i64 0) ∧ w4.cell? ⟨w.heap.size + 1 + 1, 0, none⟩ = some (.bool false) ∧ w4.cell? ⟨w.heap.size + 1 + 1 + 1, 0, none⟩ = some (.int .i64 1) := by
    refine ⟨_, rfl, alloc_of (alloc_of (alloc_of (alloc_of (Below.refl _ _) _) _) _) _, block1 (t := 3) ?_, block1 (t := 4) ?_, block1 (t := 24) ?_⟩
    · rw [Below.heap_alloc _ _ _ (by simp), Below.heap_alloc _ _ _ (by simp)]
      have := heap_alloc_new (w.alloc (.cells #[.int .i64 m] 2)) (.cells #[.int .i64 0] 3)
      simpa using this
    · rw [Below.heap_alloc _ _ _ (by simp)]
      have := heap_alloc_new ((w.alloc (.cells #[.int .i64 m] 2)).alloc (.cells #[.int .i64 0] 3)) (.cells #[.bool false] 4)
      simpa using this
    · have := heap_alloc_new (((w.alloc (.cells #[.int .i64 m] 2)).alloc (.cells #[.int .i64 0] 3)).alloc (.cells #[.bool false] 4)) (.cells #[.int .i64 1] 24)
      simpa using this
  rw [hw4]
  exact ⟨.tuple #[.int .i64 0, .bool false, .int .i64 1], by simp [results, Tryd.results39, go_sem, h1, h2, h3], rfl, hb4⟩
end Go.Proofs.YtjjbhnkplbjfeaaDoor
