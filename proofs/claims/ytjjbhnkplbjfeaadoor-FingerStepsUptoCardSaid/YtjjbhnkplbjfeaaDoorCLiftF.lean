/- From what the form reads of a slice of steps (layer 17) to steps as data. -/
import Derived.Test.YtjjbhnkplbjfeaaDoorCLift
import Derived.Test.YtjjbhnkplbjfeaaDoorCSteps

set_option linter.unusedVariables false
set_option linter.unusedSimpArgs false
namespace Go.Proofs.YtjjbhnkplbjfeaaDoor
open Go.RowKit Go.ChangeShapes Go.WideShapes Go.ChangeAt
theorem cellsS : Tryd.prog.cellsOf 46 = 6 := by kernel_rfl
theorem list3 {α : Type} : ∀ (l : List α), l.length = 3 → ∃ a b c, l = [a, b, c]
  | [a, b, c], _ => ⟨a, b, c, rfl⟩
theorem list6 {α : Type} : ∀ (l : List α), l.length = 6 → ∃ a b c d e f, l = [a, b, c, d, e, f]
  | [a, b, c, d, e, f], _ => ⟨a, b, c, d, e, f, rfl⟩
section
variable {H : Type} {enc : TypeId × Value → H} {W : World} {sp : Nat → Bool}
theorem open_step (B : Nat) (hB : B ≤ 4294967296) {fuel : Nat} {cs : List Value} {x : DataW H × List MemPlace} (h : DataW.trod enc Tryd.prog W 0 sp true fuel 46 cs = some x) (hb : Rows.uptoBulk x.1 ≤ B) : ∃ s : St, SC W (fun _ => True) s cs := by
  obtain ⟨xs, n, hn, rfl, hl, hlen, hf⟩ := DataW.trod_struct Tryd.underlying46 h
  rw [cellsS] at hl
  obtain ⟨c0, c1, c2, c3, c4, c5, rfl⟩ := list6 cs hl
  obtain ⟨y0, y1, y2, rfl⟩ := list3 xs hlen
  have h0 := hf 0 _ rfl
  have h1 := hf 1 _ rfl
  have h2 := hf 2 _ rfl
  clear hf h
  simp only [List.getElem_toArray, List.getElem_cons_zero, List.getElem_cons_succ, cellsI, cellsV, List.drop_zero, List.drop_succ_cons, List.take_succ_cons, List.take_zero, List.getElem?_cons_zero, List.getElem?_cons_succ] at h0 h1 h2
  obtain ⟨k, e0, rfl, wk⟩ := DataW.trod_int Tryd.underlying3 h0
  obtain ⟨a, e1, rfl, wa⟩ := DataW.trod_int Tryd.underlying3 h1
  obtain rfl : c0 = _ := List.head_eq_of_cons_eq e0
  obtain rfl : c1 = _ := List.head_eq_of_cons_eq e1
  obtain ⟨k0, k1⟩ := bounds_i64 wk
  obtain ⟨a0, a1⟩ := bounds_i64 wa
  simp only [List.map_cons, List.map_nil, Rows.uptoBulk, Rows.uptoBulkAll] at hb
  obtain ⟨v, hv⟩ := open_val B hB _ _ _ h2 (by omega)
  exact ⟨⟨k, a, v⟩, ⟨k0, k1, a0, a1⟩, _, hv, rfl⟩
set_option maxRecDepth 100000 in
/-- An argument that is a slice of steps. -/
theorem arg_steps {B : Nat} (hB : B ≤ 4294967296) {r : Reach} {b0 : Nat} {v : Value} {d : DataW H} {ps : List MemPlace} (hv : Value.okWide Tryd.prog W r b0 44 v) (h : DataW.Trod enc Tryd.prog W 0 sp true 44 v d ps) (hb : Rows.uptoBulk d ≤ B) :
    ∃ (l : List St) (A : Option Addr) (cap : Nat), v = .slice A l.length cap ∧ IsT W (fun _ => True) l (.slice A l.length cap) := by
  obtain ⟨a, len, c, rfl⟩ := okWide_slice Tryd.underlying44 hv
  obtain ⟨n, hn⟩ := h
  have hb' : Rows.uptoBulk (d, ps).1 ≤ B := hb
  rcases DataW.trod_slice Tryd.underlying44 hn with ⟨e3, _⟩ | ⟨a', len', cap, elems, rest, m, hm, e3, e4, _, hcap, _, hlen', hel, _, _⟩
  · simp only [Value.cells, List.cons.injEq, and_true, Value.slice.injEq] at e3
    obtain ⟨rfl, rfl, rfl⟩ := e3
    exact ⟨[], none, 0, rfl, ⟨none, 0, rfl, by simp, by simp, .inl rfl⟩⟩
  · simp only [Value.cells, List.cons.injEq, and_true, Value.slice.injEq] at e3
    obtain ⟨rfl, rfl, rfl⟩ := e3
    simp only [Prod.mk.injEq] at e4
    obtain ⟨rfl, _⟩ := e4
    simp only [Rows.uptoBulk] at hb
    have hln := bulk_length (elems.map (·.1))
    rw [List.length_map, hlen'] at hln
    rw [cellsS] at hel
    obtain ⟨f, hf⟩ := Go.Deep.choose_lt (α := St) (n := len) (p := fun i v => ∃ cs, SC W (fun _ => True) v cs ∧ ∀ j u, cs[j]? = some u → W.cell? ((a'.add (i * 6)).add j) = some u) fun i hi => by
      have h4 := hel i hi
      rw [List.getElem?_eq_getElem (by omega)] at h4
      obtain ⟨cs', h5, h6⟩ := Option.bind_eq_some_iff.1 h4
      have h7 := bulk_part (l := elems.map (·.1)) (List.mem_map.2 ⟨_, List.getElem_mem (l := elems) (n := i) (by omega), rfl⟩)
      obtain ⟨v, hv⟩ := open_step B hB h6 (by omega)
      exact ⟨v, cs', hv, (slice_elem h5).2⟩
    have hll : ((List.range len).map f).length = len := by simp
    refine ⟨(List.range len).map f, some a', c, by rw [hll], ⟨some a', c, by rw [hll], by rw [hll]; omega, by rw [hll]; omega, .inr ⟨a', rfl, fun i x hx => ?_⟩⟩⟩
    have hi : i < len := by have := (List.getElem?_eq_some_iff.1 hx).1; rwa [hll] at this
    rw [List.getElem?_map, List.getElem?_range hi] at hx
    simp only [Option.map_some, Option.some.injEq] at hx
    subst hx
    obtain ⟨cs, h1, h2⟩ := hf i hi
    refine ⟨trivial, cs, h1, fun j u hu => ?_⟩
    have := h2 j u hu
    rwa [addr_add_add] at this
end
end Go.Proofs.YtjjbhnkplbjfeaaDoor
