/- From what the form reads of the arguments to values as trees; the tables; what is read again behind the call. -/
import Derived.Test.YtmnblgaefdahhaaGreatDoorCards
import Derived.Test.YtmnblgaefdahhaaGreatDoorTie
import Derived.WalkKit
import Derived.ProofKit
import Derived.OpenShut
import Derived.ReadAgain
import Derived.PinnedBridge
import Derived.Lib.LaidIn
import Derived.Lib.LaidU8
import Derived.Deep.DeepHandedRow
import Derived.Deep.Slices
import Derived.Test.YtmnblgaefdahhaaGreatDoorCUtf

set_option linter.unusedVariables false
set_option linter.unusedSimpArgs false
namespace Go.Proofs.YtmnblgaefdahhaaGreatDoor
open Go.RowKit Go.ChangeShapes Go.WideShapes Go.ChangeAt
theorem own : ownKnob Tryz.prog.godebug = none := by kernel_rfl
theorem kids : Kids Tryz.prog (· < Tryz.prog.types.size) := kids_rows (by kernel_rfl) (by kernel_rfl)
theorem full : ∀ t e, t < Tryz.prog.types.size → Tryz.prog.underlying t = some (.slice e) → 0 < Tryz.prog.cellsOf e := slices_full_of Tryz.prog (by kernel_rfl)
theorem cellsI : Tryz.prog.cellsOf 3 = 1 := by kernel_rfl
theorem cellsJ : Tryz.prog.cellsOf 2 = 1 := by kernel_rfl
theorem cellsT : Tryz.prog.cellsOf 9 = 1 := by kernel_rfl
theorem cellsL : Tryz.prog.cellsOf 22 = 1 := by kernel_rfl
theorem cellsV : Tryz.prog.cellsOf 39 = 4 := by kernel_rfl

/-- The tables of UTF-8. -/
theorem first_eq : Rows.laid_unicode_utf8_first = Lib.firstData := Pinned.utf8First_eq
theorem accept_eq : (Rows.laid_unicode_utf8_acceptRanges : DataW Unit) = Lib.acceptData := by kernel_rfl
theorem tabs_of {W : World} (hL : laidMetH Tryz.prog [("unicode/utf8.acceptRanges", Rows.laid_unicode_utf8_acceptRanges), ("unicode/utf8.first", Rows.laid_unicode_utf8_first)] W) : Lib.Utf8Tabs 1 2 W := by
  rw [first_eq, accept_eq] at hL
  exact utf8Tabs_of_reads { Tryz.lays260 with } ⟨by kernel_rfl, by kernel_rfl, by kernel_rfl, by kernel_rfl, by kernel_rfl, by kernel_rfl, by kernel_rfl⟩
    (Lib.laidMet.reads hL (.tail _ (.head _))) (Lib.laidMet.reads hL (.head _))
/-! ### Bulk -/
theorem bulk_one {H : Type} (d : DataW H) : 1 ≤ Rows.uptoBulk d := by
  cases d with
  | lit l => cases l <;> simp [Rows.uptoBulk]
  | nil => simp [Rows.uptoBulk]
  | ptr d => simp [Rows.uptoBulk]
  | slice elems spare => simp [Rows.uptoBulk]
  | agg parts => simp [Rows.uptoBulk]
  | iface t d => simp [Rows.uptoBulk]
  | map entries => simp [Rows.uptoBulk]
  | held h => simp [Rows.uptoBulk]
theorem bulk_part {H : Type} {d : DataW H} {l : List (DataW H)} (h : d ∈ l) : Rows.uptoBulk d ≤ Rows.uptoBulkAll l := by
  induction l with
  | nil => cases h
  | cons x r ih =>
    simp only [Rows.uptoBulkAll]
    rcases List.mem_cons.1 h with rfl | e
    · omega
    · have := ih e; omega
theorem bulk_length {H : Type} (l : List (DataW H)) : l.length ≤ Rows.uptoBulkAll l := by
  induction l with
  | nil => simp
  | cons x r ih => have := bulk_one x; simp only [Rows.uptoBulkAll, List.length_cons]; omega
theorem bulk_bound {H : Type} {l : List (DataW H)} (h : Rows.uptoSmall H l = true) : ∃ B, B = 1048576 ∧ Rows.uptoBulkAll l ≤ B :=
  ⟨_, rfl, of_decide_eq_true h⟩

/-! ### Values -/
theorem slice_elem {W : World} {base : Nat} {a : Addr} {c : Nat} {cs : List Value} (h : W.cells? base a c = some cs) : cs.length = c ∧ ∀ j u, cs[j]? = some u → W.cell? (a.add j) = some u := by
  obtain ⟨_, h1, h2⟩ := World.cells?_some h
  refine ⟨h1, fun j u hu => ?_⟩
  rw [h2 j (by have := (List.getElem?_eq_some_iff.1 hu).1; omega), hu]
section
variable {H : Type} {enc : TypeId × Value → H} {W : World} {sp : Nat → Bool}
/-- Values one behind the other, out of what each of them is. -/
theorem lc_of {a : Addr} {n : Nat} (f : Nat → V) (h : ∀ i, i < n → ∃ cs, VC W (fun _ => True) (f i) cs ∧ ∀ j u, cs[j]? = some u → W.cell? ((a.add (i * 4)).add j) = some u) : ∀ k i, i + k = n → LC W (fun _ => True) ((List.range' i k).map f) a (i * 4)
  | 0, i, _ => by simp [LC]
  | k + 1, i, hk => by
    rw [List.range'_succ, List.map_cons]
    simp only [LC]
    obtain ⟨cs, h1, h2⟩ := h i (by omega)
    refine ⟨trivial, ⟨cs, h1, fun j u hu => ?_⟩, ?_⟩
    · have := h2 j u hu
      rwa [addr_add_add] at this
    · have := lc_of f h k (i + 1) (by omega)
      rwa [show (i + 1) * 4 = i * 4 + 4 by omega] at this
theorem list4 {α : Type} : ∀ (l : List α), l.length = 4 → ∃ a b c d, l = [a, b, c, d]
  | [a, b, c, d], _ => ⟨a, b, c, d, rfl⟩
theorem open_val (B : Nat) (hB : B ≤ 4294967296) : ∀ (fuel : Nat) (cs : List Value) (x : DataW H × List MemPlace), DataW.trod enc Tryz.prog W 0 sp true fuel 39 cs = some x → Rows.uptoBulk x.1 ≤ B → ∃ v : V, VC W (fun _ => True) v cs := by
  intro fuel
  induction fuel with
  | zero => intro cs x h; simp [DataW.trod] at h
  | succ fuel ih =>
    intro cs x h hb
    obtain ⟨xs, n, hn, rfl, hl, hlen, hf⟩ := DataW.trod_struct Tryz.underlying39 h
    obtain rfl : fuel = n := by omega
    rw [cellsV] at hl
    obtain ⟨c0, c1, c2, c3, rfl⟩ := list4 cs hl
    obtain ⟨y0, y1, y2, y3, rfl⟩ := list4 xs hlen
    have h0 := hf 0 _ rfl
    have h1 := hf 1 _ rfl
    have h2 := hf 2 _ rfl
    have h3 := hf 3 _ rfl
    clear hf h
    simp only [List.getElem_toArray, List.getElem_cons_zero, List.getElem_cons_succ, cellsI, cellsJ, cellsT, cellsL, List.drop_zero, List.drop_succ_cons, List.take_succ_cons, List.take_zero, List.getElem?_cons_zero, List.getElem?_cons_succ] at h0 h1 h2 h3
    obtain ⟨k, e0, rfl, wk⟩ := DataW.trod_int Tryz.underlying3 h0
    obtain ⟨n, e1, rfl, wn⟩ := DataW.trod_int Tryz.underlying2 h1
    obtain ⟨t, e2, rfl, wt⟩ := DataW.trod_string Tryz.underlying9 h2
    obtain rfl : c0 = _ := List.head_eq_of_cons_eq e0
    obtain rfl : c1 = _ := List.head_eq_of_cons_eq e1
    obtain rfl : c2 = _ := List.head_eq_of_cons_eq e2
    obtain ⟨k0, k1⟩ := bounds_i64 wk
    obtain ⟨n0, n1⟩ := bounds_i64 wn
    simp only [List.map_cons, List.map_nil, Rows.uptoBulk, Rows.uptoBulkAll, Array.length_toList] at hb
    have ht : t.size ≤ 140737488355328 := by
      have : t.data.size = t.size := rfl
      omega
    rcases DataW.trod_slice Tryz.underlying22 h3 with ⟨e3, rfl⟩ | ⟨a, len, cap, elems, rest, m, hm, e3, rfl, _, hcap, _, hlen', hel, _, _⟩
    · obtain rfl : c3 = _ := List.head_eq_of_cons_eq e3
      exact ⟨.mk k n t [], VC.mk (x := .mk k n t []) ⟨k0, k1, n0, n1, ht, by simp [V.items]⟩ (by simp [V.items]) (.inl rfl)⟩
    · obtain rfl : c3 = _ := List.head_eq_of_cons_eq e3
      subst hm
      simp only [Rows.uptoBulk] at hb
      have hln := bulk_length (elems.map (·.1))
      rw [List.length_map, hlen'] at hln
      rw [cellsV] at hel
      obtain ⟨f, hf⟩ := Go.Deep.choose_lt (α := V) (n := len) (p := fun i v => ∃ cs, VC W (fun _ => True) v cs ∧ ∀ j u, cs[j]? = some u → W.cell? ((a.add (i * 4)).add j) = some u) fun i hi => by
        have h4 := hel i hi
        rw [List.getElem?_eq_getElem (by omega)] at h4
        obtain ⟨cs', h5, h6⟩ := Option.bind_eq_some_iff.1 h4
        have h7 := bulk_part (l := elems.map (·.1)) (List.mem_map.2 ⟨_, List.getElem_mem (l := elems) (n := i) (by omega), rfl⟩)
        obtain ⟨v, hv⟩ := ih cs' _ (DataW.trod_le (Nat.le_succ m) h6) (by omega)
        exact ⟨v, cs', hv, (slice_elem h5).2⟩
      have hlc := lc_of f hf len 0 (by omega)
      rw [Nat.zero_mul] at hlc
      have hll : ((List.range' 0 len).map f).length = len := by simp
      have := VC.mk (w := W) (S := fun _ => True) (x := .mk k n t ((List.range' 0 len).map f)) (A := some a) (cap := cap) ⟨k0, k1, n0, n1, ht, by simp only [V.items, hll]; omega⟩ (by simp only [V.items, hll]; omega) (.inr ⟨a, rfl, hlc⟩)
      simp only [V.items, hll] at this
      exact ⟨_, this⟩
/-- A slice of values. -/
theorem open_vals (B : Nat) (hB : B ≤ 4294967296) {fuel : Nat} {cs : List Value} {x : DataW H × List MemPlace} (h : DataW.trod enc Tryz.prog W 0 sp true fuel 22 cs = some x) (hb : Rows.uptoBulk x.1 ≤ B) :
    ∃ (l : List V) (A : Option Addr) (cap : Nat), cs = [.slice A l.length cap] ∧ IsS W (fun _ => True) l (.slice A l.length cap) ∧ (A = none → cap = 0) := by
  rcases DataW.trod_slice Tryz.underlying22 h with ⟨e3, rfl⟩ | ⟨a, len, cap, elems, rest, m, hm, e3, rfl, _, hcap, _, hlen', hel, _, _⟩
  · exact ⟨[], none, 0, e3, ⟨none, 0, rfl, by simp, by simp, .inl rfl⟩, fun _ => rfl⟩
  · simp only [Rows.uptoBulk] at hb
    have hln := bulk_length (elems.map (·.1))
    rw [List.length_map, hlen'] at hln
    rw [cellsV] at hel
    obtain ⟨f, hf⟩ := Go.Deep.choose_lt (α := V) (n := len) (p := fun i v => ∃ cs, VC W (fun _ => True) v cs ∧ ∀ j u, cs[j]? = some u → W.cell? ((a.add (i * 4)).add j) = some u) fun i hi => by
      have h4 := hel i hi
      rw [List.getElem?_eq_getElem (by omega)] at h4
      obtain ⟨cs', h5, h6⟩ := Option.bind_eq_some_iff.1 h4
      have h7 := bulk_part (l := elems.map (·.1)) (List.mem_map.2 ⟨_, List.getElem_mem (l := elems) (n := i) (by omega), rfl⟩)
      obtain ⟨v, hv⟩ := open_val B hB _ cs' _ h6 (by omega)
      exact ⟨v, cs', hv, (slice_elem h5).2⟩
    have hlc := lc_of f hf len 0 (by omega)
    rw [Nat.zero_mul] at hlc
    have hll : ((List.range' 0 len).map f).length = len := by simp
    exact ⟨(List.range' 0 len).map f, some a, cap, by rw [hll]; exact e3, by rw [hll]; exact ⟨_, cap, by rw [hll], by omega, by omega, .inr ⟨a, rfl, hlc⟩⟩, fun e => by cases e⟩
theorem open_vals_len {B fuel : Nat} {A : Option Addr} {n c : Nat} {x : DataW H × List MemPlace} (h : DataW.trod enc Tryz.prog W 0 sp true fuel 22 (Value.slice A n c).cells.toList = some x) (hb : Rows.uptoBulk x.1 ≤ B) : n ≤ B := by
  rcases DataW.trod_slice Tryz.underlying22 h with ⟨e3, rfl⟩ | ⟨a, len, cap, elems, rest, m, hm, e3, rfl, _, hcap, _, hlen', hel, _, _⟩
  · simp [Value.cells] at e3
    omega
  · simp only [Rows.uptoBulk] at hb
    have hln := bulk_length (elems.map (·.1))
    rw [List.length_map, hlen'] at hln
    simp [Value.cells] at e3
    omega
set_option maxRecDepth 100000 in
/-- An argument that is a slice of values. -/
theorem arg_vals {B : Nat} (hB : B ≤ 4294967296) {r : Reach} {b0 : Nat} {v : Value} {d : DataW H} {ps : List MemPlace} (hv : Value.okWide Tryz.prog W r b0 22 v) (h : DataW.Trod enc Tryz.prog W 0 sp true 22 v d ps) (hb : Rows.uptoBulk d ≤ B) :
    ∃ (l : List V) (A : Option Addr) (cap : Nat), v = .slice A l.length cap ∧ IsS W (fun _ => True) l (.slice A l.length cap) ∧ (A = none → cap = 0) ∧ l.length ≤ B := by
  obtain ⟨a, len, c, rfl⟩ := okWide_slice Tryz.underlying22 hv
  obtain ⟨n, hn⟩ := h
  have hb' : Rows.uptoBulk (d, ps).1 ≤ B := hb
  obtain ⟨l, A, cap, e, h1, h2⟩ := open_vals B hB hn hb'
  simp only [Value.cells, List.cons.injEq, and_true] at e
  refine ⟨l, A, cap, e, h1, h2, ?_⟩
  obtain ⟨_, _, he, _, h3, _⟩ := h1
  have h4 := open_vals_len hn hb
  simp only [Value.slice.injEq] at e
  omega
set_option maxRecDepth 100000 in
/-- An argument that is a value. -/
theorem arg_val {B : Nat} (hB : B ≤ 4294967296) {r : Reach} {b0 : Nat} {v : Value} {d : DataW H} {ps : List MemPlace} (hv : Value.okWide Tryz.prog W r b0 39 v) (h : DataW.Trod enc Tryz.prog W 0 sp true 39 v d ps) (hb : Rows.uptoBulk d ≤ B) :
    ∃ x : V, IsV W (fun _ => True) x v := by
  obtain ⟨cs, rfl, _⟩ := okWide_struct Tryz.underlying39 hv
  obtain ⟨n, hn⟩ := h
  have hb' : Rows.uptoBulk (d, ps).1 ≤ B := hb
  obtain ⟨x, hx⟩ := open_val B hB _ _ _ hn hb'
  refine ⟨x, _, hx, ?_⟩
  simp [Value.cells]
end
/-! ### Behind the call -/
theorem trodAll_later {H : Type} {enc : TypeId × Value → H} {W W' : World} (hb : Below W.heap.size W W') : ∀ {ts : List TypeId} {vs : List Value} {ds : List (DataW H)} {ps : List MemPlace}, (∀ t ∈ ts, t < Tryz.prog.types.size) → DataW.TrodAll enc Tryz.prog W 0 (fun _ => true) true ts vs ds ps → (∀ p ∈ ps, p.block < W.heap.size) → DataW.TrodAll enc Tryz.prog W' 0 (fun b => decide (b < W.heap.size)) true ts vs ds ps := by
  intro ts
  induction ts with
  | nil =>
    intro vs ds ps _ h hp
    cases vs <;> cases ds <;> simp_all [DataW.TrodAll]
  | cons t ts ih =>
    intro vs ds ps ht h hp
    cases vs with
    | nil => simp [DataW.TrodAll] at h
    | cons v vs =>
      cases ds with
      | nil => simp [DataW.TrodAll] at h
      | cons d ds =>
        obtain ⟨p, q, h1, h2, e⟩ := h
        subst e
        obtain ⟨n, hn⟩ := DataW.Trod.respare kids full (ht t (List.mem_cons_self ..)) (spare' := fun b => decide (b < W.heap.size)) h1 (fun x hx => by simpa using hp x (List.mem_append_left _ hx))
        exact ⟨p, q, ⟨n, DataW.trod_carry n t _ _ hn (fun x hx => hb.same (hp x (List.mem_append_left _ hx)))⟩, ih (fun t h => ht t (List.mem_cons_of_mem _ h)) h2 (fun x hx => hp x (List.mem_append_right _ hx)), rfl⟩
/-- What a law owes behind its call. -/
theorem law_post {H : Type} {enc : TypeId × Value → H} {f : Func} {s : ChangeSpec} {W W' : World} {args : Array Value} {ds gs : List (DataW H)} {before : List MemPlace} (hW : DataW.Whole enc Tryz.prog f.params.toList s.vars false W args.toList ds gs before)
    (hv : s.vars = []) (hts : ∀ t ∈ f.params.toList, t < Tryz.prog.types.size) (hr : f.resultTypes = #[4]) (hb : Below W.heap.size W W') (hfn : s.fn H ds = { results := [.lit (.bool true)], args := ds }) : s.post enc Tryz.prog f false true false false W args (.bool true) W' := by
  have hlt := hW.lt
  have hW' := hW
  obtain ⟨p, q, hA, hV, rfl, _, _⟩ := hW
  rw [hv] at hV
  obtain ⟨rfl, rfl⟩ := trodVars_none hV
  refine ⟨ds, [], _, [], p, [], hW', ?_, ?_, ?_, hb.frame _, fun h => by cases h⟩
  · rw [List.append_nil, hfn, hr]
    exact trodAll_mk1 (shut_bool Tryz.underlying4 _)
  · rw [List.append_nil, hfn]
    exact trodAll_later hb hts hA (fun x hx => hlt x (List.mem_append_left _ hx))
  · rw [List.append_nil, hfn, hv]
    rfl
/-! ### A world for the witness -/
noncomputable def laidWorld (os : Os) : World :=
  let w0 := World.holding Tryz.prog os ⟨#[], #[], []⟩
  let put (h : Array Obj) (g : Nat) (cs : Array Value) : Array Obj := h.modify g fun
    | .cells _ t frozen => .cells cs t frozen
    | o => o
  let h1 := put w0.heap 1 (Lib.firstTab.map fun z => Value.int .u8 z).toArray
  let h2 := put h1 2 ((List.range 16).flatMap fun i => [Value.int .u8 (Lib.accLo i), Value.int .u8 (Lib.accHi i)]).toArray
  { w0 with heap := h2 }
theorem laid_met (os : Os) (args : Array Value) : laidMetH Tryz.prog [("unicode/utf8.acceptRanges", Rows.laid_unicode_utf8_acceptRanges), ("unicode/utf8.first", Rows.laid_unicode_utf8_first)] ((laidWorld os).forCall (fun _ _ => 0) ⟨#[], args, []⟩).memory := by
  rw [first_eq, accept_eq]
  exact (LaidIn.of_run (l := [("unicode/utf8.acceptRanges", Lib.acceptData), ("unicode/utf8.first", Lib.firstData)]) [2, 1] 8 (by kernel_rfl) (by kernel_rfl) (by kernel_rfl) (by kernel_rfl)).met
end Go.Proofs.YtmnblgaefdahhaaGreatDoor
