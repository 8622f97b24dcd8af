/- From what the form reads of the arguments to values as trees; the tables; what is read again behind the call. Arguments of the laws of texts; a world for the witness. -/
import Derived.Lib.LaidTab
import Derived.Test.YtoiipdknamgcmaaGreatDoorCards
import Derived.Test.YtoiipdknamgcmaaGreatDoorTie
import Derived.WalkKit
import Derived.ProofKit
import Derived.OpenShut
import Derived.ReadAgain
import Derived.PinnedBridge
import Derived.Lib.LaidIn
import Derived.Lib.LaidU8
import Derived.Deep.DeepHandedRow
import Derived.Deep.Slices
import Derived.Test.YtoiipdknamgcmaaGreatDoorCRdE
/- From what the form reads of the arguments to values as trees; the tables; what is read again behind the call. -/
set_option linter.unusedVariables false
set_option linter.unusedSimpArgs false
namespace Go.Proofs.YtoiipdknamgcmaaGreatDoor
open Go.RowKit Go.ChangeShapes Go.WideShapes Go.ChangeAt
theorem own : ownKnob Tryz.prog.godebug = none := by kernel_rfl
theorem kids : Kids Tryz.prog (· < Tryz.prog.types.size) := kids_rows (by kernel_rfl) (by kernel_rfl)
theorem full : ∀ t e, t < Tryz.prog.types.size → Tryz.prog.underlying t = some (.slice e) → 0 < Tryz.prog.cellsOf e := slices_full_of Tryz.prog (by kernel_rfl)
theorem cellsI : Tryz.prog.cellsOf 3 = 1 := by kernel_rfl
theorem cellsJ : Tryz.prog.cellsOf 2 = 1 := by kernel_rfl
theorem cellsT : Tryz.prog.cellsOf 9 = 1 := by kernel_rfl
theorem cellsL : Tryz.prog.cellsOf 22 = 1 := by kernel_rfl
theorem cellsV : Tryz.prog.cellsOf 24 = 4 := by kernel_rfl

/-- The tables of UTF-8. -/
theorem first_eq : Rows.laid_unicode_utf8_first = Lib.firstData := Pinned.utf8First_eq
theorem accept_eq : (Rows.laid_unicode_utf8_acceptRanges : DataW Unit) = Lib.acceptData := by kernel_rfl
theorem var_of_iface {n name : String} {d : DataW Unit} {W : World} {g t : Nat} (hg : Tryz.prog.globalNamed n = some g) (hty : (Tryz.prog.globals[g]?).map (·.type) = some t) (hu : ∃ m, Tryz.prog.underlying t = some (.interface m)) (h : Lib.VarReads Tryz.prog W n (.iface name d)) : VarIs n W := by
  obtain ⟨m, hu⟩ := hu
  obtain ⟨g', t', cs, fuel, p, h1, h2, h3, h4⟩ := h
  obtain rfl := Option.some.inj (hg.symm.trans h1)
  obtain rfl := Option.some.inj (hty.symm.trans h2)
  cases fuel with
  | zero => simp [DataW.trod] at h4
  | succ fuel =>
    obtain ⟨l⟩ := cs
    rcases l with _ | ⟨v, _ | ⟨v2, r⟩⟩
    · simp [DataW.trod, hu] at h4
    · cases v <;> first | exact ⟨_, _, h3⟩ | (exfalso; simp [DataW.trod, hu] at h4)
    · simp [DataW.trod, hu] at h4
theorem tab_of_reads {W : World} {name : String} {k : IntKind} {zs : List Int} {g t e n : Nat} (hg : Tryz.prog.globalNamed name = some g) (hty : (Tryz.prog.globals[g]?).map (·.type) = some t) (ht : Tryz.prog.underlying t = some (.array n e)) (he : Tryz.prog.underlying e = some (.int k)) (hce : Tryz.prog.cellsOf e = 1) (hct : Tryz.prog.cellsOf t = n)
    (h : Lib.VarReads Tryz.prog W name (Lib.tabData k zs)) : Lib.TabIs Tryz.prog W name k zs := by
  obtain ⟨g', t', cs, fuel, p, h1, h2, h3, h4⟩ := h
  obtain rfl := Option.some.inj (hg.symm.trans h1)
  obtain rfl := Option.some.inj (hty.symm.trans h2)
  unfold Lib.TabIs
  rw [h3, ← Lib.cells_of_tab ht he hce hct h4]
/-- The variables that the laws of texts read. -/
abbrev laidL : List (String × DataW Unit) := [("math/bits.deBruijn32tab", Rows.laid_math_bits_deBruijn32tab), ("math/bits.deBruijn64tab", Rows.laid_math_bits_deBruijn64tab), ("internal/strconv.uint64pow10", Rows.laid_internal_strconv_uint64pow10), ("unicode/utf8.acceptRanges", Rows.laid_unicode_utf8_acceptRanges), ("strconv.ErrRange", Rows.laid_strconv_ErrRange), ("strconv.ErrSyntax", Rows.laid_strconv_ErrSyntax), ("unicode/utf8.first", Rows.laid_unicode_utf8_first)]
theorem pow_eq : (Rows.laid_internal_strconv_uint64pow10 : DataW Unit) = Lib.tabData .u64 Lib.pow10Tab := by kernel_rfl
theorem utf_of {W : World} (hL : laidMetH Tryz.prog laidL W) : Lib.Utf8Tabs 1 2 W := by
  have h1 : Lib.VarReads Tryz.prog W "unicode/utf8.first" Lib.firstData := first_eq ▸ Lib.laidMet.reads hL (.tail _ (.tail _ (.tail _ (.tail _ (.tail _ (.tail _ (.head _)))))))
  have h2 : Lib.VarReads Tryz.prog W "unicode/utf8.acceptRanges" Lib.acceptData := accept_eq ▸ Lib.laidMet.reads hL (.tail _ (.tail _ (.tail _ (.head _))))
  exact utf8Tabs_of_reads { Tryz.lays260 with } ⟨by kernel_rfl, by kernel_rfl, by kernel_rfl, by kernel_rfl, by kernel_rfl, by kernel_rfl, by kernel_rfl⟩ h1 h2
theorem pow_of {W : World} (hL : laidMetH Tryz.prog laidL W) : Pow10 W := by
  have h : Lib.VarReads Tryz.prog W "internal/strconv.uint64pow10" (Lib.tabData .u64 Lib.pow10Tab) := pow_eq ▸ Lib.laidMet.reads hL (.tail _ (.tail _ (.head _)))
  exact tab_of_reads tab_named (t := 126) (e := 81) (n := 20) (by kernel_rfl) (by kernel_rfl) (by kernel_rfl) (by kernel_rfl) (by kernel_rfl) h
theorem ran_of {W : World} (hL : laidMetH Tryz.prog laidL W) : VarIs "strconv.ErrRange" W :=
  var_of_iface ran_named (t := 58) (by kernel_rfl) ⟨_, Tryz.underlying58⟩ (Lib.laidMet.reads hL (.tail _ (.tail _ (.tail _ (.tail _ (.head _))))))
theorem syn_of {W : World} (hL : laidMetH Tryz.prog laidL W) : VarIs "strconv.ErrSyntax" W :=
  var_of_iface syn_named (t := 58) (by kernel_rfl) ⟨_, Tryz.underlying58⟩ (Lib.laidMet.reads hL (.tail _ (.tail _ (.tail _ (.tail _ (.tail _ (.head _)))))))
theorem all_tabs {W : World} (hL : laidMetH Tryz.prog laidL W) : Tabs W := by
  refine ⟨utf_of hL, pow_of hL, syn_of hL, ran_of hL, ?_⟩
  obtain ⟨tp, p, h⟩ := ran_of hL
  unfold World.var? at h
  rw [ran_named] at h
  simp only [Option.bind_some] at h
  rcases Nat.lt_or_ge 7 W.heap.size with h' | h'
  · exact h'
  · rw [Array.getElem?_eq_none h'] at h
    simp at h
end Go.Proofs.YtoiipdknamgcmaaGreatDoor

/- Arguments of the laws of texts; a world for the witness. -/
set_option linter.unusedVariables false
set_option linter.unusedSimpArgs false
namespace Go.Proofs.YtoiipdknamgcmaaGreatDoor
open Go.RowKit Go.ChangeShapes Go.WideShapes Go.ChangeAt
/-! ### Bulk -/
theorem bulk_one {H : Type} (d : DataW H) : 1 ≤ Rows.uptoBulk d := by
  cases d with
  | lit l => cases l <;> simp [Rows.uptoBulk]
  | nil => simp [Rows.uptoBulk]
  | ptr d => simp [Rows.uptoBulk]
  | slice elems spare => simp [Rows.uptoBulk]
  | agg parts => simp [Rows.uptoBulk]
  | iface t d => simp [Rows.uptoBulk]
  | map entries => simp [Rows.uptoBulk]
  | held h => simp [Rows.uptoBulk]
theorem bulk_part {H : Type} {d : DataW H} {l : List (DataW H)} (h : d ∈ l) : Rows.uptoBulk d ≤ Rows.uptoBulkAll l := by
  induction l with
  | nil => cases h
  | cons x r ih =>
    simp only [Rows.uptoBulkAll]
    rcases List.mem_cons.1 h with rfl | e
    · omega
    · have := ih e; omega
theorem bulk_length {H : Type} (l : List (DataW H)) : l.length ≤ Rows.uptoBulkAll l := by
  induction l with
  | nil => simp
  | cons x r ih => have := bulk_one x; simp only [Rows.uptoBulkAll, List.length_cons]; omega
theorem bulk_bound {H : Type} {l : List (DataW H)} (h : Rows.uptoSmall H l = true) : ∃ B, B = 1048576 ∧ Rows.uptoBulkAll l ≤ B :=
  ⟨_, rfl, of_decide_eq_true h⟩

/-! ### Values -/
theorem slice_elem {W : World} {base : Nat} {a : Addr} {c : Nat} {cs : List Value} (h : W.cells? base a c = some cs) : cs.length = c ∧ ∀ j u, cs[j]? = some u → W.cell? (a.add j) = some u := by
  obtain ⟨_, h1, h2⟩ := World.cells?_some h
  refine ⟨h1, fun j u hu => ?_⟩
  rw [h2 j (by have := (List.getElem?_eq_some_iff.1 hu).1; omega), hu]
section
variable {H : Type} {enc : TypeId × Value → H} {W : World} {sp : Nat → Bool}
/-- Values one behind the other, out of what each of them is. -/
theorem lc_of {a : Addr} {n : Nat} (f : Nat → V) (h : ∀ i, i < n → ∃ cs, VC W (fun _ => True) (f i) cs ∧ ∀ j u, cs[j]? = some u → W.cell? ((a.add (i * 4)).add j) = some u) : ∀ k i, i + k = n → LC W (fun _ => True) ((List.range' i k).map f) a (i * 4)
  | 0, i, _ => by simp [LC]
  | k + 1, i, hk => by
    rw [List.range'_succ, List.map_cons]
    simp only [LC]
    obtain ⟨cs, h1, h2⟩ := h i (by omega)
    refine ⟨trivial, ⟨cs, h1, fun j u hu => ?_⟩, ?_⟩
    · have := h2 j u hu
      rwa [addr_add_add] at this
    · have := lc_of f h k (i + 1) (by omega)
      rwa [show (i + 1) * 4 = i * 4 + 4 by omega] at this
theorem list4 {α : Type} : ∀ (l : List α), l.length = 4 → ∃ a b c d, l = [a, b, c, d]
  | [a, b, c, d], _ => ⟨a, b, c, d, rfl⟩
theorem open_val (B : Nat) (hB : B ≤ 4294967296) : ∀ (fuel : Nat) (cs : List Value) (x : DataW H × List MemPlace), DataW.trod enc Tryz.prog W 0 sp true fuel 24 cs = some x → Rows.uptoBulk x.1 ≤ B → ∃ v : V, VC W (fun _ => True) v cs := by
  intro fuel
  induction fuel with
  | zero => intro cs x h; simp [DataW.trod] at h
  | succ fuel ih =>
    intro cs x h hb
    obtain ⟨xs, n, hn, rfl, hl, hlen, hf⟩ := DataW.trod_struct Tryz.underlying24 h
    obtain rfl : fuel = n := by omega
    rw [cellsV] at hl
    obtain ⟨c0, c1, c2, c3, rfl⟩ := list4 cs hl
    obtain ⟨y0, y1, y2, y3, rfl⟩ := list4 xs hlen
    have h0 := hf 0 _ rfl
    have h1 := hf 1 _ rfl
    have h2 := hf 2 _ rfl
    have h3 := hf 3 _ rfl
    clear hf h
    simp only [List.getElem_toArray, List.getElem_cons_zero, List.getElem_cons_succ, cellsI, cellsJ, cellsT, cellsL, List.drop_zero, List.drop_succ_cons, List.take_succ_cons, List.take_zero, List.getElem?_cons_zero, List.getElem?_cons_succ] at h0 h1 h2 h3
    obtain ⟨k, e0, rfl, wk⟩ := DataW.trod_int Tryz.underlying3 h0
    obtain ⟨n, e1, rfl, wn⟩ := DataW.trod_int Tryz.underlying2 h1
    obtain ⟨t, e2, rfl, wt⟩ := DataW.trod_string Tryz.underlying9 h2
    obtain rfl : c0 = _ := List.head_eq_of_cons_eq e0
    obtain rfl : c1 = _ := List.head_eq_of_cons_eq e1
    obtain rfl : c2 = _ := List.head_eq_of_cons_eq e2
    obtain ⟨k0, k1⟩ := bounds_i64 wk
    obtain ⟨n0, n1⟩ := bounds_i64 wn
    simp only [List.map_cons, List.map_nil, Rows.uptoBulk, Rows.uptoBulkAll, Array.length_toList] at hb
    have ht : t.size ≤ 140737488355328 := by
      have : t.data.size = t.size := rfl
      omega
    rcases DataW.trod_slice Tryz.underlying22 h3 with ⟨e3, rfl⟩ | ⟨a, len, cap, elems, rest, m, hm, e3, rfl, _, hcap, _, hlen', hel, _, _⟩
    · obtain rfl : c3 = _ := List.head_eq_of_cons_eq e3
      exact ⟨.mk k n t [], VC.mk (x := .mk k n t []) ⟨k0, k1, n0, n1, ht, by simp [V.items]⟩ (by simp [V.items]) (.inl rfl)⟩
    · obtain rfl : c3 = _ := List.head_eq_of_cons_eq e3
      subst hm
      simp only [Rows.uptoBulk] at hb
      have hln := bulk_length (elems.map (·.1))
      rw [List.length_map, hlen'] at hln
      rw [cellsV] at hel
      obtain ⟨f, hf⟩ := Go.Deep.choose_lt (α := V) (n := len) (p := fun i v => ∃ cs, VC W (fun _ => True) v cs ∧ ∀ j u, cs[j]? = some u → W.cell? ((a.add (i * 4)).add j) = some u) fun i hi => by
        have h4 := hel i hi
        rw [List.getElem?_eq_getElem (by omega)] at h4
        obtain ⟨cs', h5, h6⟩ := Option.bind_eq_some_iff.1 h4
        have h7 := bulk_part (l := elems.map (·.1)) (List.mem_map.2 ⟨_, List.getElem_mem (l := elems) (n := i) (by omega), rfl⟩)
        obtain ⟨v, hv⟩ := ih cs' _ (DataW.trod_le (Nat.le_succ m) h6) (by omega)
        exact ⟨v, cs', hv, (slice_elem h5).2⟩
      have hlc := lc_of f hf len 0 (by omega)
      rw [Nat.zero_mul] at hlc
      have hll : ((List.range' 0 len).map f).length = len := by simp
      have := VC.mk (w := W) (S := fun _ => True) (x := .mk k n t ((List.range' 0 len).map f)) (A := some a) (cap := cap) ⟨k0, k1, n0, n1, ht, by simp only [V.items, hll]; omega⟩ (by simp only [V.items, hll]; omega) (.inr ⟨a, rfl, hlc⟩)
      simp only [V.items, hll] at this
      exact ⟨_, this⟩
/-- A slice of values. -/
theorem open_vals (B : Nat) (hB : B ≤ 4294967296) {fuel : Nat} {cs : List Value} {x : DataW H × List MemPlace} (h : DataW.trod enc Tryz.prog W 0 sp true fuel 22 cs = some x) (hb : Rows.uptoBulk x.1 ≤ B) :
    ∃ (l : List V) (A : Option Addr) (cap : Nat), cs = [.slice A l.length cap] ∧ IsS W (fun _ => True) l (.slice A l.length cap) ∧ (A = none → cap = 0) := by
  rcases DataW.trod_slice Tryz.underlying22 h with ⟨e3, rfl⟩ | ⟨a, len, cap, elems, rest, m, hm, e3, rfl, _, hcap, _, hlen', hel, _, _⟩
  · exact ⟨[], none, 0, e3, ⟨none, 0, rfl, by simp, by simp, .inl rfl⟩, fun _ => rfl⟩
  · simp only [Rows.uptoBulk] at hb
    have hln := bulk_length (elems.map (·.1))
    rw [List.length_map, hlen'] at hln
    rw [cellsV] at hel
    obtain ⟨f, hf⟩ := Go.Deep.choose_lt (α := V) (n := len) (p := fun i v => ∃ cs, VC W (fun _ => True) v cs ∧ ∀ j u, cs[j]? = some u → W.cell? ((a.add (i * 4)).add j) = some u) fun i hi => by
      have h4 := hel i hi
      rw [List.getElem?_eq_getElem (by omega)] at h4
      obtain ⟨cs', h5, h6⟩ := Option.bind_eq_some_iff.1 h4
      have h7 := bulk_part (l := elems.map (·.1)) (List.mem_map.2 ⟨_, List.getElem_mem (l := elems) (n := i) (by omega), rfl⟩)
      obtain ⟨v, hv⟩ := open_val B hB _ cs' _ h6 (by omega)
      exact ⟨v, cs', hv, (slice_elem h5).2⟩
    have hlc := lc_of f hf len 0 (by omega)
    rw [Nat.zero_mul] at hlc
    have hll : ((List.range' 0 len).map f).length = len := by simp
    exact ⟨(List.range' 0 len).map f, some a, cap, by rw [hll]; exact e3, by rw [hll]; exact ⟨_, cap, by rw [hll], by omega, by omega, .inr ⟨a, rfl, hlc⟩⟩, fun e => by cases e⟩
theorem open_vals_len {B fuel : Nat} {A : Option Addr} {n c : Nat} {x : DataW H × List MemPlace} (h : DataW.trod enc Tryz.prog W 0 sp true fuel 22 (Value.slice A n c).cells.toList = some x) (hb : Rows.uptoBulk x.1 ≤ B) : n ≤ B := by
  rcases DataW.trod_slice Tryz.underlying22 h with ⟨e3, rfl⟩ | ⟨a, len, cap, elems, rest, m, hm, e3, rfl, _, hcap, _, hlen', hel, _, _⟩
  · simp [Value.cells] at e3
    omega
  · simp only [Rows.uptoBulk] at hb
    have hln := bulk_length (elems.map (·.1))
    rw [List.length_map, hlen'] at hln
    simp [Value.cells] at e3
    omega
set_option maxRecDepth 100000 in
/-- An argument that is a slice of values. -/
theorem arg_vals {B : Nat} (hB : B ≤ 4294967296) {r : Reach} {b0 : Nat} {v : Value} {d : DataW H} {ps : List MemPlace} (hv : Value.okWide Tryz.prog W r b0 22 v) (h : DataW.Trod enc Tryz.prog W 0 sp true 22 v d ps) (hb : Rows.uptoBulk d ≤ B) :
    ∃ (l : List V) (A : Option Addr) (cap : Nat), v = .slice A l.length cap ∧ IsS W (fun _ => True) l (.slice A l.length cap) ∧ (A = none → cap = 0) ∧ l.length ≤ B := by
  obtain ⟨a, len, c, rfl⟩ := okWide_slice Tryz.underlying22 hv
  obtain ⟨n, hn⟩ := h
  have hb' : Rows.uptoBulk (d, ps).1 ≤ B := hb
  obtain ⟨l, A, cap, e, h1, h2⟩ := open_vals B hB hn hb'
  simp only [Value.cells, List.cons.injEq, and_true] at e
  refine ⟨l, A, cap, e, h1, h2, ?_⟩
  obtain ⟨_, _, he, _, h3, _⟩ := h1
  have h4 := open_vals_len hn hb
  simp only [Value.slice.injEq] at e
  omega
set_option maxRecDepth 100000 in
/-- An argument that is a value. -/
theorem arg_val {B : Nat} (hB : B ≤ 4294967296) {r : Reach} {b0 : Nat} {v : Value} {d : DataW H} {ps : List MemPlace} (hv : Value.okWide Tryz.prog W r b0 24 v) (h : DataW.Trod enc Tryz.prog W 0 sp true 24 v d ps) (hb : Rows.uptoBulk d ≤ B) :
    ∃ x : V, IsV W (fun _ => True) x v := by
  obtain ⟨cs, rfl, _⟩ := okWide_struct Tryz.underlying24 hv
  obtain ⟨n, hn⟩ := h
  have hb' : Rows.uptoBulk (d, ps).1 ≤ B := hb
  obtain ⟨x, hx⟩ := open_val B hB _ _ _ hn hb'
  refine ⟨x, _, hx, ?_⟩
  simp [Value.cells]
end
/-! ### Behind the call -/
theorem trodAll_later {H : Type} {enc : TypeId × Value → H} {W W' : World} (hb : Below W.heap.size W W') : ∀ {ts : List TypeId} {vs : List Value} {ds : List (DataW H)} {ps : List MemPlace}, (∀ t ∈ ts, t < Tryz.prog.types.size) → DataW.TrodAll enc Tryz.prog W 0 (fun _ => true) true ts vs ds ps → (∀ p ∈ ps, p.block < W.heap.size) → DataW.TrodAll enc Tryz.prog W' 0 (fun b => decide (b < W.heap.size)) true ts vs ds ps := by
  intro ts
  induction ts with
  | nil =>
    intro vs ds ps _ h hp
    cases vs <;> cases ds <;> simp_all [DataW.TrodAll]
  | cons t ts ih =>
    intro vs ds ps ht h hp
    cases vs with
    | nil => simp [DataW.TrodAll] at h
    | cons v vs =>
      cases ds with
      | nil => simp [DataW.TrodAll] at h
      | cons d ds =>
        obtain ⟨p, q, h1, h2, e⟩ := h
        subst e
        obtain ⟨n, hn⟩ := DataW.Trod.respare kids full (ht t (List.mem_cons_self ..)) (spare' := fun b => decide (b < W.heap.size)) h1 (fun x hx => by simpa using hp x (List.mem_append_left _ hx))
        exact ⟨p, q, ⟨n, DataW.trod_carry n t _ _ hn (fun x hx => hb.same (hp x (List.mem_append_left _ hx)))⟩, ih (fun t h => ht t (List.mem_cons_of_mem _ h)) h2 (fun x hx => hp x (List.mem_append_right _ hx)), rfl⟩
/-- What a law owes behind its call. -/
theorem law_post {H : Type} {enc : TypeId × Value → H} {f : Func} {s : ChangeSpec} {W W' : World} {args : Array Value} {ds gs : List (DataW H)} {before : List MemPlace} (hW : DataW.Whole enc Tryz.prog f.params.toList s.vars false W args.toList ds gs before)
    (hv : s.vars = []) (hts : ∀ t ∈ f.params.toList, t < Tryz.prog.types.size) (hr : f.resultTypes = #[4]) (hb : Below W.heap.size W W') (hfn : s.fn H ds = { results := [.lit (.bool true)], args := ds }) : s.post enc Tryz.prog f false true false false W args (.bool true) W' := by
  have hlt := hW.lt
  have hW' := hW
  obtain ⟨p, q, hA, hV, rfl, _, _⟩ := hW
  rw [hv] at hV
  obtain ⟨rfl, rfl⟩ := trodVars_none hV
  refine ⟨ds, [], _, [], p, [], hW', ?_, ?_, ?_, hb.frame _, fun h => by cases h⟩
  · rw [List.append_nil, hfn, hr]
    exact trodAll_mk1 (shut_bool Tryz.underlying4 _)
  · rw [List.append_nil, hfn]
    exact trodAll_later hb hts hA (fun x hx => hlt x (List.mem_append_left _ hx))
  · rw [List.append_nil, hfn, hv]
    rfl
set_option maxRecDepth 100000 in
/-- An argument that is a text. -/
theorem arg_text {H : Type} {enc : TypeId × Value → H} {W : World} {sp : Nat → Bool} {B : Nat} (hB : B ≤ 4294967296) {r : Reach} {b0 : Nat} {v : Value} {d : DataW H} {ps : List MemPlace} (hv : Value.okWide Tryz.prog W r b0 9 v) (h : DataW.Trod enc Tryz.prog W 0 sp true 9 v d ps) (hb : Rows.uptoBulk d ≤ B) :
    ∃ s : ByteArray, v = .string s ∧ s.size ≤ 140737488355328 := by
  obtain ⟨n, hn⟩ := h
  obtain ⟨t, e, hx, wt⟩ := DataW.trod_string Tryz.underlying9 hn
  obtain ⟨s, hs⟩ := okWide_string Tryz.underlying9 hv
  subst hs
  refine ⟨s, rfl, ?_⟩
  have h1 : t = s := by simpa [Value.cells] using e.symm
  subst h1
  have h2 : d = .lit (.string t.data.toList) := congrArg Prod.fst hx
  rw [h2] at hb
  simp only [Rows.uptoBulk, Array.length_toList] at hb
  have : t.data.size = t.size := rfl
  omega
/-! ### A world for the witness -/
set_option maxRecDepth 100000 in
noncomputable def laidWorld (os : Os) : World :=
  let w0 := World.holding Tryz.prog os ⟨#[], #[], []⟩
  let put (h : Array Obj) (g : Nat) (cs : Array Value) : Array Obj := h.modify g fun
    | .cells _ t frozen => .cells cs t frozen
    | o => o
  let h0 := put w0.heap 0 (Lib.pow10Tab.map fun z => Value.int .u64 z).toArray
  let h1 := put h0 1 (Lib.firstTab.map fun z => Value.int .u8 z).toArray
  let h2 := put h1 2 ((List.range 16).flatMap fun i => [Value.int .u8 (Lib.accLo i), Value.int .u8 (Lib.accHi i)]).toArray
  let h3 := put h2 4 #[.int .u8 0, .int .u8 1, .int .u8 28, .int .u8 2, .int .u8 29, .int .u8 14, .int .u8 24, .int .u8 3, .int .u8 30, .int .u8 22, .int .u8 20, .int .u8 15, .int .u8 25, .int .u8 17, .int .u8 4, .int .u8 8, .int .u8 31, .int .u8 27, .int .u8 13, .int .u8 23, .int .u8 21, .int .u8 19, .int .u8 16, .int .u8 7, .int .u8 26, .int .u8 12, .int .u8 18, .int .u8 6, .int .u8 11, .int .u8 5, .int .u8 10, .int .u8 9]
  let h4 := put h3 5 #[.int .u8 0, .int .u8 1, .int .u8 56, .int .u8 2, .int .u8 57, .int .u8 49, .int .u8 28, .int .u8 3, .int .u8 61, .int .u8 58, .int .u8 42, .int .u8 50, .int .u8 38, .int .u8 29, .int .u8 17, .int .u8 4, .int .u8 62, .int .u8 47, .int .u8 59, .int .u8 36, .int .u8 45, .int .u8 43, .int .u8 51, .int .u8 22, .int .u8 53, .int .u8 39, .int .u8 33, .int .u8 30, .int .u8 24, .int .u8 18, .int .u8 12, .int .u8 5, .int .u8 63, .int .u8 55, .int .u8 48, .int .u8 27, .int .u8 60, .int .u8 41, .int .u8 37, .int .u8 16, .int .u8 46, .int .u8 35, .int .u8 44, .int .u8 21, .int .u8 52, .int .u8 32, .int .u8 23, .int .u8 11, .int .u8 54, .int .u8 26, .int .u8 40, .int .u8 15, .int .u8 34, .int .u8 20, .int .u8 31, .int .u8 10, .int .u8 25, .int .u8 14, .int .u8 19, .int .u8 9, .int .u8 13, .int .u8 8, .int .u8 7, .int .u8 6]
  let n := h4.size
  let h5 := put h4 7 #[.iface 172 (.pointer (some ⟨n, 0, none⟩))]
  let h6 := put h5 6 #[.iface 172 (.pointer (some ⟨n + 1, 0, none⟩))]
  { w0 with heap := (h6.push (.cells #[.string ⟨#[118, 97, 108, 117, 101, 32, 111, 117, 116, 32, 111, 102, 32, 114, 97, 110, 103, 101]⟩] 174 (0, 0))).push (.cells #[.string ⟨#[105, 110, 118, 97, 108, 105, 100, 32, 115, 121, 110, 116, 97, 120]⟩] 174 (0, 0)) }
set_option maxRecDepth 100000 in
theorem laid_met (os : Os) (args : Array Value) : laidMetH Tryz.prog laidL ((laidWorld os).forCall (fun _ _ => 0) ⟨#[], args, []⟩).memory := by
  unfold laidL
  rw [first_eq, accept_eq]
  exact (LaidIn.of_run (l := [("math/bits.deBruijn32tab", Rows.laid_math_bits_deBruijn32tab), ("math/bits.deBruijn64tab", Rows.laid_math_bits_deBruijn64tab), ("internal/strconv.uint64pow10", Rows.laid_internal_strconv_uint64pow10), ("unicode/utf8.acceptRanges", Lib.acceptData), ("strconv.ErrRange", Rows.laid_strconv_ErrRange), ("strconv.ErrSyntax", Rows.laid_strconv_ErrSyntax), ("unicode/utf8.first", Lib.firstData)]) (List.range 64) 8 (by kernel_rfl) (by kernel_rfl) (by kernel_rfl) (by kernel_rfl)).met
end Go.Proofs.YtoiipdknamgcmaaGreatDoor
