/- append as a step of a region that draws its order. What the document says of cuts and of parts. What the document says of a cut. -/
import Derived.Deep.RegionLaw
import Derived.Test.YtjjbhnkplbjfeaaDoorCSpJ
/- append as a step of a region that draws its order. -/
set_option linter.unusedVariables false
set_option linter.unusedSimpArgs false
namespace Go.Proofs.YtjjbhnkplbjfeaaDoor
open Go.RowKit
attribute [local go_sem] lt_succ_of

theorem OwnL.empty {w : World} {base : Nat} {S : Nat → Prop} {g : Nat} (h : w.heap[g]? = some (.cells #[] 33 (0, 0))) (hg : base ≤ g) : OwnL w base S [] (.slice (some ⟨g, 0, none⟩) 0 0) :=
  ⟨[], ⟨rfl, .inr ⟨g, 0, #[], rfl, hg, h, Nat.le_refl _, Nat.zero_le _, rfl, rfl⟩⟩, rfl⟩
theorem appendL_step {W : World} {ops : Array Oper} {o : Oper} {a : Act} {Q : Exit → Act → World → Prop} {K : Act → World → Prop} {E : Prop} (base : Nat) (S : Nat → Prop) (hgd : o.guard = none) (s x : Operand) (ho : o.op = .call { callee := .builtin .append, args := #[s, x], argTypes := #[22, 22] })
    (v : Value) (l m : List V) (A : Option Addr) (n cap : Nat) (hs : a.eval s = v) (hx : a.eval x = .slice A n cap) (hn : m.length = n) (HO : OwnL W base S l v) (hm : LA W (fun b => S b ∧ some b ≠ v.ownBlock) m A)
    (hbase : base ≤ W.heap.size) (hl : l.length + m.length ≤ 4294967296)
    (h : ∀ v1 w1, OwnL w1 base S (l ++ m) v1 → W.grownBy w1 v.ownBlock → (v1.ownBlock = v.ownBlock ∨ v1.ownBlock = some W.heap.size) → K (a.put o.dst v1) w1) :
    if Region.wanted o (yielded ops a.tmps) = true then Oper.wp Tryd.prog o a W K Q else E := by
  have hw : Region.wanted o (yielded ops a.tmps) = true := by simp [Region.wanted, hgd]
  rw [if_pos hw]
  subst hn
  obtain ⟨i, hi, hz0, hz1, hz2⟩ := info_parts infoV
  obtain ⟨xs, hown, hcs⟩ := HO
  rcases hm with rfl | ⟨ad, rfl, hm⟩
  · have hrun : (Builtin.append_ #[22, 22] o.type #[v, .slice A 0 cap]).run Tryd.prog W = .ok v W := by
      rcases hown.2 with ⟨rfl, hn⟩ | ⟨g, cap', cur, rfl, _, _, hnc, _⟩
      · cases A <;> simp [Builtin.append_, run_underlying Tryd.underlying22, sizeOf, typeInfo, hi, Builtin.lenOf, Builtin.firstCells, loadCells, loadCellsFrom]
      · cases A <;> simp [Builtin.append_, run_underlying Tryd.underlying22, sizeOf, typeInfo, hi, Builtin.lenOf, Builtin.firstCells, hnc, storeCells, loadCells, loadCellsFrom]
    unfold Oper.wp execOp
    simp only [ho, resolve, invoke, builtin, Sem.run_bind, Sem.run_pure, Result.andThen_ok, List.map_toArray, List.map_cons, List.map_nil, hs, hx, List.length_nil, hrun]
    exact h v W (by rw [List.append_nil]; exact ⟨xs, hown, hcs⟩) (World.grownBy.refl W _) (.inl rfl)
  · obtain ⟨ys, hys, hcell⟩ := LC.cs hm
    obtain ⟨v', w', hr, h2, h3, h4, h5⟩ := run_append_own_at (P := Tryd.prog) W base 22 o.type 33 i _ 4 56 Tryd.underlying22 hi hz0 hz1 hz2 rfl (by decide) v l.length xs hown ad m.length cap ys hys.length
      (fun j u hu => by simpa using hcell j u hu) hys.one (by simp only [maxLen]; omega) (by omega) hbase
    unfold Oper.wp execOp
    simp only [ho, resolve, invoke, builtin, Sem.run_bind, Sem.run_pure, Result.andThen_ok, List.map_toArray, List.map_cons, List.map_nil, hs, hx, hr]
    exact h _ _ (own_after hcs hys h3 h5 h2) h3 h5
theorem append_manyN {W : World} {ops : Array Oper} {rest : List Oper} {o : Oper} {a : Act} {Q : Exit → Act → World → Prop} (base : Nat) (S : Nat → Prop) (hgd : o.guard = none) (s x : Operand) (ho : o.op = .call { callee := .builtin .append, args := #[s, x], argTypes := #[22, 22] })
    (v : Value) (l m : List V) (A : Option Addr) (n cap : Nat) (hs : a.eval s = v) (hx : a.eval x = .slice A n cap) (hn : m.length = n) (HO : OwnL W base S l v) (hm : LA W (fun b => S b ∧ some b ≠ v.ownBlock) m A)
    (hbase : base ≤ W.heap.size) (hl : l.length + m.length ≤ 4294967296)
    (h : ∀ v1 w1, OwnL w1 base S (l ++ m) v1 → W.grownBy w1 v.ownBlock → wpList Tryd.prog ops Q rest (a.put o.dst v1) w1) :
    wpList Tryd.prog ops Q (o :: rest) a W := by
  subst hn
  exact append_many base S hgd s x ho v l m A cap hs hx HO hm hbase hl h
/-- The items of an old slice beside an array of the call's own. -/
theorem LA.beside {w W : World} {S : Nat → Prop} {l : List V} {A : Option Addr} {v : Value} (h : LA w (fun b => S b ∧ b < w.heap.size) l A) (hb : Below w.heap.size w W) (hv : ∀ k, v.ownBlock = some k → w.heap.size ≤ k) : LA W (fun b => (S b ∧ b < w.heap.size) ∧ some b ≠ v.ownBlock) l A :=
  h.keep fun b h1 h2 => ⟨⟨h2, fun e => by have := hv b e.symm; omega⟩, hb.block b h1⟩
theorem empty_new {w : World} {g : Nat} (hg : w.heap.size ≤ g) : ∀ k, (Value.slice (some ⟨g, 0, none⟩) 0 0).ownBlock = some k → w.heap.size ≤ k := by
  intro k e
  have : g = k := by simpa [Value.ownBlock] using e
  omega
/-- A slice of the call's own stays when another one grows. -/
theorem OwnL.stays {w w1 W' : World} {S : Nat → Prop} {l : List V} {v : Value} {B : Nat} (h : OwnL w1 w.heap.size (fun b => S b ∧ b < w.heap.size) l v) (hl : l.length ≤ 4294967296) (hB : w.heap.size ≤ B) (hne : v.ownBlock ≠ some B) (hk : ∀ b, b < w1.heap.size → b ≠ B → W'.heap[b]? = w1.heap[b]?) : IsS W' (Old w S) l v := by
  have h2 : OwnL W' w.heap.size (fun b => S b ∧ b < w.heap.size) l v := h.keep (fun b hb hs => ⟨hs, hk b hb (by omega)⟩) fun k e => hk k (h.own_lt k e).2 (fun e2 => hne (by rw [e, e2]))
  exact h2.is (fun b hb => .inl hb) (fun b hb => .inr hb) hl
/-- Is a number an end of a list? -/
theorem refend_calls (l : List V) (vl : Value) (i : Int) (w : World) (S : Nat → Prop) (h : IsS w S l vl) :
    Calls Tryd.prog 90 #[vl, .int .i64 i] w fun e w' => e = .returned (.bool (decide (0 ≤ i ∧ i ≤ (l.length : Int)))) ∧ w = w' := by
  obtain ⟨A, c, rfl, _, _, _⟩ := h
  by_cases h1 : 0 ≤ i
  · have d1 : decide (0 ≤ i) = true := decide_eq_true h1
    by_cases h2 : i ≤ (l.length : Int)
    · rw [decide_eq_true (show 0 ≤ i ∧ i ≤ (l.length : Int) from ⟨h1, h2⟩)]
      have d2 : decide (i ≤ (l.length : Int)) = true := decide_eq_true h2
      go_enter Tryd.func90, Tryd.ntmps90
      go_wp2_with fail
      go_ret
      exact ⟨rfl, rfl⟩
    · rw [decide_eq_false (show ¬ (0 ≤ i ∧ i ≤ (l.length : Int)) from fun h => h2 h.2)]
      have d2 : decide (i ≤ (l.length : Int)) = false := decide_eq_false h2
      go_enter Tryd.func90, Tryd.ntmps90
      go_wp2_with fail
      go_ret
      exact ⟨rfl, rfl⟩
  · rw [decide_eq_false (show ¬ (0 ≤ i ∧ i ≤ (l.length : Int)) from fun h => h1 h.1)]
    have d1 : decide (0 ≤ i) = false := decide_eq_false h1
    go_enter Tryd.func90, Tryd.ntmps90
    go_wp2_with fail
    go_ret
    exact ⟨rfl, rfl⟩
end Go.Proofs.YtjjbhnkplbjfeaaDoor

/- What the document says of cuts and of parts. -/
set_option linter.unusedVariables false
set_option linter.unusedSimpArgs false
namespace Go.Proofs.YtjjbhnkplbjfeaaDoor
open Go.RowKit
attribute [local go_sem] lt_succ_of

theorem below_emptied (w : World) : ∃ w1, w.alloc (.cells #[] 33) = w1 ∧ Below w.heap.size w w1 ∧ w1.heap[w.heap.size]? = some (.cells #[] 33 (0, 0)) := ⟨_, rfl, alloc_of (Below.refl _ _) _, heap_alloc_new _ _⟩
set_option maxRecDepth 100000 in
set_option maxHeartbeats 4000000 in
theorem refslice_calls (l : List V) (vl : Value) (from_ to : Int) (w : World) (S : Nat → Prop) (h : IsS w S l vl) (h65 : l.length ≤ 65536) :
    Calls Tryd.prog 57 #[vl, .int .i64 from_, .int .i64 to] w fun e w' => (¬ (0 ≤ from_ ∧ from_ ≤ to ∧ to ≤ (l.length : Int)) ∧ e = .returned (.tuple #[.slice none 0 0, .int .i64 5]) ∧ Below w.heap.size w w') ∨ ((0 ≤ from_ ∧ from_ ≤ to ∧ to ≤ (l.length : Int)) ∧ ∃ v, e = .returned (.tuple #[v, .int .i64 0]) ∧ IsS w' (Old w S) ((l.take to.toNat).drop from_.toNat) v ∧ Below w.heap.size w w') := by
  have HE : Hid (∀ i, Calls Tryd.prog 90 #[vl, .int .i64 i] w fun e w' => e = .returned (.bool (decide (0 ≤ i ∧ i ≤ (l.length : Int)))) ∧ w = w') := Lib.hid fun i => refend_calls l vl i w S h
  have HL := Lib.hid (h.keep (S' := fun b => S b ∧ b < w.heap.size) (fun b hb hs => ⟨⟨hs, hb⟩, rfl⟩))
  obtain ⟨A, c, rfl, hc, hl, hA⟩ := HL.out
  by_cases h1 : 0 ≤ from_ ∧ from_ ≤ (l.length : Int)
  · have b1 := decide_eq_true h1
    by_cases h2 : 0 ≤ to ∧ to ≤ (l.length : Int)
    · have b2 := decide_eq_true h2
      by_cases h3 : to < from_
      · have d3 : decide (to < from_) = true := decide_eq_true h3
        have HN := Lib.hid (show ¬ (0 ≤ from_ ∧ from_ ≤ to ∧ to ≤ (l.length : Int)) by omega)
        clear h1 h2 h3
        go_enter Tryd.func57, Tryd.ntmps57
        go_wp2_with (go_at_call 90; refine (HE.out _).mono ?_; rintro e w3 ⟨rfl, rfl⟩; first | rw [b1] | rw [b2])
        go_ret2
        exact .inl ⟨HN.out, rfl, Below.refl _ _⟩
      · have d3 : decide (to < from_) = false := decide_eq_false h3
        obtain ⟨j, rfl⟩ : ∃ j : Nat, from_ = (j : Int) := ⟨from_.toNat, by omega⟩
        obtain ⟨k, rfl⟩ : ∃ k : Nat, to = (k : Int) := ⟨to.toNat, by omega⟩
        have HIN := Lib.hid (show 0 ≤ (j : Int) ∧ (j : Int) ≤ (k : Int) ∧ (k : Int) ≤ (l.length : Int) by omega)
        have hj : j ≤ k := by omega
        have hk : k ≤ l.length := by omega
        have hj2 : (j : Int) ≤ (k : Int) := by omega
        have hk2 : (k : Int) ≤ (l.length : Int) := by omega
        have hkc : (k : Int) ≤ (c : Int) := by omega
        have hkc2 : k ≤ c := by omega
        have hlc : (l.length : Int) ≤ (c : Int) := by omega
        have hln : ((l.take k).drop j).length = k - j := by rw [List.length_drop, List.length_take]; omega
        clear h1 h2 h3
        have HA := Lib.hid hA
        clear hA
        by_cases hcj : c = j
        · subst hcj
          have HM : Hid (LA w (fun b => S b ∧ b < w.heap.size) ((l.take k).drop c) A) := Lib.hid (.inl (List.length_eq_zero_iff.1 (by rw [hln]; omega)))
          go_enter Tryd.func57, Tryd.ntmps57
          go_wp2_with (first
            | (go_at_call 90; refine (HE.out _).mono ?_; rintro e w3 ⟨rfl, rfl⟩; first | rw [b1] | rw [b2])
            | (at_builtin; refine append_manyN w.heap.size (fun b => S b ∧ b < w.heap.size) rfl _ _ rfl _ [] _ _ _ _ rfl rfl (by first | exact hln | (rw [hln]; omega)) (OwnL.empty (heap_alloc_new _ _) (Nat.le_refl _)) (HM.out.beside (alloc_of (Below.refl _ _) _) (empty_new (Nat.le_refl _))) (by simp) (by rw [hln]; simp; omega) ?_; intro v1 w1 hO hg; have HO := Lib.hid hO; have hb := Below.grown (alloc_of (Below.refl w.heap.size w) _) hg (by simp) (empty_new (Nat.le_refl _)); clear hO hg))
          go_ret2
          exact .inr ⟨HIN.out, _, rfl, HO.out.is (S' := Old w S) (fun b h => .inl h) (fun b h => .inr h) (by rw [List.nil_append, hln]; omega), hb⟩
        · have HM : Hid (LA w (fun b => S b ∧ b < w.heap.size) ((l.take k).drop j) (A.map (fun x => x.add (j * 4)))) := Lib.hid ((HA.out.take k).drop_map j)
          go_enter Tryd.func57, Tryd.ntmps57
          go_wp2_with (first
            | (go_at_call 90; refine (HE.out _).mono ?_; rintro e w3 ⟨rfl, rfl⟩; first | rw [b1] | rw [b2])
            | (at_builtin; refine append_manyN w.heap.size (fun b => S b ∧ b < w.heap.size) rfl _ _ rfl _ [] _ _ _ _ rfl rfl (by first | exact hln | (rw [hln]; omega)) (OwnL.empty (heap_alloc_new _ _) (Nat.le_refl _)) (HM.out.beside (alloc_of (Below.refl _ _) _) (empty_new (Nat.le_refl _))) (by simp) (by rw [hln]; simp; omega) ?_; intro v1 w1 hO hg; have HO := Lib.hid hO; have hb := Below.grown (alloc_of (Below.refl w.heap.size w) _) hg (by simp) (empty_new (Nat.le_refl _)); clear hO hg))
          go_ret2
          exact .inr ⟨HIN.out, _, rfl, HO.out.is (S' := Old w S) (fun b h => .inl h) (fun b h => .inr h) (by rw [List.nil_append, hln]; omega), hb⟩
    · have b2 := decide_eq_false h2
      have HN := Lib.hid (show ¬ (0 ≤ from_ ∧ from_ ≤ to ∧ to ≤ (l.length : Int)) by omega)
      clear h1 h2
      go_enter Tryd.func57, Tryd.ntmps57
      go_wp2_with (go_at_call 90; refine (HE.out _).mono ?_; rintro e w3 ⟨rfl, rfl⟩; first | rw [b1] | rw [b2])
      go_ret2
      exact .inl ⟨HN.out, rfl, Below.refl _ _⟩
  · have b1 := decide_eq_false h1
    have HN := Lib.hid (show ¬ (0 ≤ from_ ∧ from_ ≤ to ∧ to ≤ (l.length : Int)) by omega)
    clear h1
    go_enter Tryd.func57, Tryd.ntmps57
    go_wp2_with (go_at_call 90; refine (HE.out _).mono ?_; rintro e w3 ⟨rfl, rfl⟩; first | rw [b1] | rw [b2])
    go_ret2
    exact .inl ⟨HN.out, rfl, Below.refl _ _⟩
end Go.Proofs.YtjjbhnkplbjfeaaDoor

/- What the document says of a cut. -/
set_option linter.unusedVariables false
set_option linter.unusedSimpArgs false
namespace Go.Proofs.YtjjbhnkplbjfeaaDoor
open Go.RowKit
attribute [local go_sem] lt_succ_of

set_option maxRecDepth 100000 in
set_option maxHeartbeats 4000000 in
theorem refcut_calls (l : List V) (vl : Value) (i : Int) (w : World) (S : Nat → Prop) (h : IsS w S l vl) (h65 : l.length ≤ 65536) :
    Calls Tryd.prog 53 #[vl, .int .i64 i] w fun e w' => (¬ (0 ≤ i ∧ i ≤ (l.length : Int)) ∧ e = .returned (.tuple #[.slice none 0 0, .slice none 0 0, .int .i64 5]) ∧ Below w.heap.size w w') ∨ ((0 ≤ i ∧ i ≤ (l.length : Int)) ∧ ∃ v v2, e = .returned (.tuple #[v, v2, .int .i64 0]) ∧ IsS w' (Old w S) (l.take i.toNat) v ∧ IsS w' (Old w S) (l.drop i.toNat) v2 ∧ Below w.heap.size w w') := by
  have HE := refend_calls l vl i w S h
  have HL := Lib.hid (h.keep (S' := fun b => S b ∧ b < w.heap.size) (fun b hb hs => ⟨⟨hs, hb⟩, rfl⟩))
  obtain ⟨A, c, rfl, hc, hl, hA⟩ := HL.out
  by_cases h1 : 0 ≤ i ∧ i ≤ (l.length : Int)
  · rw [decide_eq_true h1] at HE
    have HE := Lib.hid HE
    obtain ⟨j, rfl⟩ : ∃ j : Nat, i = (j : Int) := ⟨i.toNat, by omega⟩
    have HIN := Lib.hid h1
    have hj : j ≤ l.length := by omega
    have hj2 : (j : Int) ≤ (l.length : Int) := by omega
    have hjc : (j : Int) ≤ (c : Int) := by omega
    have hjc2 : j ≤ c := by omega
    have hlc : (l.length : Int) ≤ (c : Int) := by omega
    have hlt : (l.take j).length = j := by rw [List.length_take]; omega
    have hld : (l.drop j).length = l.length - j := by rw [List.length_drop]
    have HA := Lib.hid hA
    clear hA h1
    have HM1 : Hid (LA w (fun b => S b ∧ b < w.heap.size) (l.take j) A) := Lib.hid (HA.out.take j)
    by_cases hcj : c = j
    · subst hcj
      have HM2 : Hid (LA w (fun b => S b ∧ b < w.heap.size) (l.drop c) A) := Lib.hid (.inl (List.length_eq_zero_iff.1 (by rw [hld]; omega)))
      go_enter Tryd.func53, Tryd.ntmps53
      go_wp2_with (first
        | (go_at_call 90; refine HE.out.mono ?_; rintro e w3 ⟨rfl, rfl⟩))
      go_region_law (first
        | (refine appendL_step w.heap.size (fun b => S b ∧ b < w.heap.size) rfl (.tmp 11) (.tmp 14) rfl (.slice (some ⟨w.heap.size, 0, none⟩) 0 0) [] _ _ _ _ rfl rfl hlt (OwnL.empty (by first | exact heap_alloc_new _ _ | exact two_boxes _ _ _) (by omega)) (HM1.out.beside (by repeat (first | exact Below.refl _ _ | refine drew_of ?_ | refine alloc_of ?_ _)) (empty_new (by omega))) (by first | (simp; done) | (simp; omega)) (by rw [hlt]; simp; omega) ?_; intro v1 w1 hO1 hg1 hat1; have hb1 := Below.grown (by repeat (first | exact Below.refl _ _ | refine drew_of ?_ | refine alloc_of ?_ _) : Below w.heap.size w _) hg1 (by first | (simp; done) | (simp; omega)) (empty_new (by omega)); have HO1 := Lib.hid hO1; skip; clear hO1 HM1)
        | (refine appendL_step w.heap.size (fun b => S b ∧ b < w.heap.size) rfl (.tmp 11) (.tmp 14) rfl (.slice (some ⟨w.heap.size + 1, 0, none⟩) 0 0) [] _ _ _ _ rfl rfl hlt (OwnL.empty (by exact two_boxes' _ _ _) (by omega)) (HM1.out.beside (by repeat (first | exact Below.refl _ _ | refine drew_of ?_ | refine alloc_of ?_ _)) (empty_new (by omega))) (by first | (simp; done) | (simp; omega)) (by rw [hlt]; simp; omega) ?_; intro v1 w1 hO1 hg1 hat1; have hb1 := Below.grown (by repeat (first | exact Below.refl _ _ | refine drew_of ?_ | refine alloc_of ?_ _) : Below w.heap.size w _) hg1 (by first | (simp; done) | (simp; omega)) (empty_new (by omega)); have HO1 := Lib.hid hO1; skip; clear hO1 HM1)
        | (refine appendL_step w.heap.size (fun b => S b ∧ b < w.heap.size) rfl (.tmp 16) (.tmp 19) rfl (.slice (some ⟨w1.heap.size, 0, none⟩) 0 0) [] _ _ _ _ rfl rfl (by first | exact hld | (rw [hld]; omega)) (OwnL.empty (by exact heap_alloc_new _ _) (by have := hb1.size; omega)) (HM2.out.beside (by first | exact hb1 | exact alloc_of hb1 _ | exact drew_of (alloc_of hb1 _)) (empty_new (by have := hb1.size; omega))) (by have := hb1.size; simp; omega) (by rw [hld]; simp; omega) ?_; intro v2 w2 hO2 hg2 hat2; have HO2 := Lib.hid hO2; skip; clear hO2 HM2)
        | (refine appendL_step w.heap.size (fun b => S b ∧ b < w.heap.size) rfl (.tmp 16) (.tmp 19) rfl (.slice (some ⟨w.heap.size + 1, 0, none⟩) 0 0) [] _ _ _ _ rfl rfl (by first | exact hld | (rw [hld]; omega)) (OwnL.empty (by exact (hg1.block (w.heap.size + 1) (by simp) (by simp [Value.ownBlock])).trans (two_boxes' _ _ _)) (by have := hb1.size; omega)) (HM2.out.beside (by first | exact hb1 | exact alloc_of hb1 _ | exact drew_of (alloc_of hb1 _)) (empty_new (by have := hb1.size; omega))) (by have := hb1.size; simp; omega) (by rw [hld]; simp; omega) ?_; intro v2 w2 hO2 hg2 hat2; have HO2 := Lib.hid hO2; skip; clear hO2 HM2)
        | (refine appendL_step w.heap.size (fun b => S b ∧ b < w.heap.size) rfl (.tmp 16) (.tmp 19) rfl (.slice (some ⟨w.heap.size, 0, none⟩) 0 0) [] _ _ _ _ rfl rfl (by first | exact hld | (rw [hld]; omega)) (OwnL.empty (by exact (hg1.block (w.heap.size) (by simp; omega) (by simp [Value.ownBlock])).trans (two_boxes _ _ _)) (by have := hb1.size; omega)) (HM2.out.beside (by first | exact hb1 | exact alloc_of hb1 _ | exact drew_of (alloc_of hb1 _)) (empty_new (by have := hb1.size; omega))) (by have := hb1.size; simp; omega) (by rw [hld]; simp; omega) ?_; intro v2 w2 hO2 hg2 hat2; have HO2 := Lib.hid hO2; skip; clear hO2 HM2))
      · have hb2 := Below.grown (alloc_of hb1 (.cells #[] 33)) hg2 (by have := hb1.size; simp; omega) (empty_new (by have := hb1.size; omega))
        have hv1 : IsS w2 (Old w S) (l.take c) v1 := OwnL.stays (B := w1.heap.size) HO1.out (by simp; omega) hb1.size (fun e => by have := (HO1.out.own_lt _ e).2; omega) (fun b hb hne => (hg2.block b (by simp; omega) (fun e => hne (by simpa [Value.ownBlock] using e))).trans (Below.heap_alloc _ _ _ hb))
        have HV1 := Lib.hid hv1
        clear hv1
        go_wp2_with fail
        refine bodyPost_ret (v := .tuple #[v1, v2, .int .i64 0]) (by simp [results, Tryd.results53, go_sem]) rfl (.inr ⟨HIN.out, _, _, rfl, HV1.out, HO2.out.is (S' := Old w S) (fun b h => .inl h) (fun b h => .inr h) (by simp; omega), hb2⟩)
      · have hb2 := Below.grown hb1 hg2 hb1.size (empty_new (by omega))
        have hv1 : IsS w2 (Old w S) (l.take c) v1 := OwnL.stays (B := w.heap.size + 1) HO1.out (by simp; omega) (by omega) (fun e => by rcases hat1 with h | h <;> (rw [h] at e; simp [Value.ownBlock] at e; try omega)) (fun b hb hne => hg2.block b hb (fun e => hne (by simpa [Value.ownBlock] using e)))
        have HV1 := Lib.hid hv1
        clear hv1
        go_wp2_with fail
        refine bodyPost_ret (v := .tuple #[v1, v2, .int .i64 0]) (by simp [results, Tryd.results53, go_sem]) rfl (.inr ⟨HIN.out, _, _, rfl, HV1.out, HO2.out.is (S' := Old w S) (fun b h => .inl h) (fun b h => .inr h) (by simp; omega), hb2⟩)
      · have hb2 := Below.grown hb1 hg2 hb1.size (empty_new (by omega))
        have hv1 : IsS w2 (Old w S) (l.take c) v1 := OwnL.stays (B := w.heap.size) HO1.out (by simp; omega) (by omega) (fun e => by rcases hat1 with h | h <;> (rw [h] at e; simp [Value.ownBlock] at e; try omega)) (fun b hb hne => hg2.block b hb (fun e => hne (by simpa [Value.ownBlock] using e)))
        have HV1 := Lib.hid hv1
        clear hv1
        go_wp2_with fail
        refine bodyPost_ret (v := .tuple #[v1, v2, .int .i64 0]) (by simp [results, Tryd.results53, go_sem]) rfl (.inr ⟨HIN.out, _, _, rfl, HV1.out, HO2.out.is (S' := Old w S) (fun b h => .inl h) (fun b h => .inr h) (by simp; omega), hb2⟩)
    · have HM2 : Hid (LA w (fun b => S b ∧ b < w.heap.size) (l.drop j) (A.map (fun x => x.add (j * 4)))) := Lib.hid (HA.out.drop_map j)
      go_enter Tryd.func53, Tryd.ntmps53
      go_wp2_with (first
        | (go_at_call 90; refine HE.out.mono ?_; rintro e w3 ⟨rfl, rfl⟩))
      go_region_law (first
        | (refine appendL_step w.heap.size (fun b => S b ∧ b < w.heap.size) rfl (.tmp 11) (.tmp 14) rfl (.slice (some ⟨w.heap.size, 0, none⟩) 0 0) [] _ _ _ _ rfl rfl hlt (OwnL.empty (by first | exact heap_alloc_new _ _ | exact two_boxes _ _ _) (by omega)) (HM1.out.beside (by repeat (first | exact Below.refl _ _ | refine drew_of ?_ | refine alloc_of ?_ _)) (empty_new (by omega))) (by first | (simp; done) | (simp; omega)) (by rw [hlt]; simp; omega) ?_; intro v1 w1 hO1 hg1 hat1; have hb1 := Below.grown (by repeat (first | exact Below.refl _ _ | refine drew_of ?_ | refine alloc_of ?_ _) : Below w.heap.size w _) hg1 (by first | (simp; done) | (simp; omega)) (empty_new (by omega)); have HO1 := Lib.hid hO1; skip; clear hO1 HM1)
        | (refine appendL_step w.heap.size (fun b => S b ∧ b < w.heap.size) rfl (.tmp 11) (.tmp 14) rfl (.slice (some ⟨w.heap.size + 1, 0, none⟩) 0 0) [] _ _ _ _ rfl rfl hlt (OwnL.empty (by exact two_boxes' _ _ _) (by omega)) (HM1.out.beside (by repeat (first | exact Below.refl _ _ | refine drew_of ?_ | refine alloc_of ?_ _)) (empty_new (by omega))) (by first | (simp; done) | (simp; omega)) (by rw [hlt]; simp; omega) ?_; intro v1 w1 hO1 hg1 hat1; have hb1 := Below.grown (by repeat (first | exact Below.refl _ _ | refine drew_of ?_ | refine alloc_of ?_ _) : Below w.heap.size w _) hg1 (by first | (simp; done) | (simp; omega)) (empty_new (by omega)); have HO1 := Lib.hid hO1; skip; clear hO1 HM1)
        | (refine appendL_step w.heap.size (fun b => S b ∧ b < w.heap.size) rfl (.tmp 16) (.tmp 19) rfl (.slice (some ⟨w1.heap.size, 0, none⟩) 0 0) [] _ _ _ _ rfl rfl (by first | exact hld | (rw [hld]; omega)) (OwnL.empty (by exact heap_alloc_new _ _) (by have := hb1.size; omega)) (HM2.out.beside (by first | exact hb1 | exact alloc_of hb1 _ | exact drew_of (alloc_of hb1 _)) (empty_new (by have := hb1.size; omega))) (by have := hb1.size; simp; omega) (by rw [hld]; simp; omega) ?_; intro v2 w2 hO2 hg2 hat2; have HO2 := Lib.hid hO2; skip; clear hO2 HM2)
        | (refine appendL_step w.heap.size (fun b => S b ∧ b < w.heap.size) rfl (.tmp 16) (.tmp 19) rfl (.slice (some ⟨w.heap.size + 1, 0, none⟩) 0 0) [] _ _ _ _ rfl rfl (by first | exact hld | (rw [hld]; omega)) (OwnL.empty (by exact (hg1.block (w.heap.size + 1) (by simp) (by simp [Value.ownBlock])).trans (two_boxes' _ _ _)) (by have := hb1.size; omega)) (HM2.out.beside (by first | exact hb1 | exact alloc_of hb1 _ | exact drew_of (alloc_of hb1 _)) (empty_new (by have := hb1.size; omega))) (by have := hb1.size; simp; omega) (by rw [hld]; simp; omega) ?_; intro v2 w2 hO2 hg2 hat2; have HO2 := Lib.hid hO2; skip; clear hO2 HM2)
        | (refine appendL_step w.heap.size (fun b => S b ∧ b < w.heap.size) rfl (.tmp 16) (.tmp 19) rfl (.slice (some ⟨w.heap.size, 0, none⟩) 0 0) [] _ _ _ _ rfl rfl (by first | exact hld | (rw [hld]; omega)) (OwnL.empty (by exact (hg1.block (w.heap.size) (by simp; omega) (by simp [Value.ownBlock])).trans (two_boxes _ _ _)) (by have := hb1.size; omega)) (HM2.out.beside (by first | exact hb1 | exact alloc_of hb1 _ | exact drew_of (alloc_of hb1 _)) (empty_new (by have := hb1.size; omega))) (by have := hb1.size; simp; omega) (by rw [hld]; simp; omega) ?_; intro v2 w2 hO2 hg2 hat2; have HO2 := Lib.hid hO2; skip; clear hO2 HM2))
      · have hb2 := Below.grown (alloc_of hb1 (.cells #[] 33)) hg2 (by have := hb1.size; simp; omega) (empty_new (by have := hb1.size; omega))
        have hv1 : IsS w2 (Old w S) (l.take j) v1 := OwnL.stays (B := w1.heap.size) HO1.out (by simp; omega) hb1.size (fun e => by have := (HO1.out.own_lt _ e).2; omega) (fun b hb hne => (hg2.block b (by simp; omega) (fun e => hne (by simpa [Value.ownBlock] using e))).trans (Below.heap_alloc _ _ _ hb))
        have HV1 := Lib.hid hv1
        clear hv1
        go_wp2_with fail
        refine bodyPost_ret (v := .tuple #[v1, v2, .int .i64 0]) (by simp [results, Tryd.results53, go_sem]) rfl (.inr ⟨HIN.out, _, _, rfl, HV1.out, HO2.out.is (S' := Old w S) (fun b h => .inl h) (fun b h => .inr h) (by simp; omega), hb2⟩)
      · have hb2 := Below.grown hb1 hg2 hb1.size (empty_new (by omega))
        have hv1 : IsS w2 (Old w S) (l.take j) v1 := OwnL.stays (B := w.heap.size + 1) HO1.out (by simp; omega) (by omega) (fun e => by rcases hat1 with h | h <;> (rw [h] at e; simp [Value.ownBlock] at e; try omega)) (fun b hb hne => hg2.block b hb (fun e => hne (by simpa [Value.ownBlock] using e)))
        have HV1 := Lib.hid hv1
        clear hv1
        go_wp2_with fail
        refine bodyPost_ret (v := .tuple #[v1, v2, .int .i64 0]) (by simp [results, Tryd.results53, go_sem]) rfl (.inr ⟨HIN.out, _, _, rfl, HV1.out, HO2.out.is (S' := Old w S) (fun b h => .inl h) (fun b h => .inr h) (by simp; omega), hb2⟩)
      · have hb2 := Below.grown hb1 hg2 hb1.size (empty_new (by omega))
        have hv1 : IsS w2 (Old w S) (l.take j) v1 := OwnL.stays (B := w.heap.size) HO1.out (by simp; omega) (by omega) (fun e => by rcases hat1 with h | h <;> (rw [h] at e; simp [Value.ownBlock] at e; try omega)) (fun b hb hne => hg2.block b hb (fun e => hne (by simpa [Value.ownBlock] using e)))
        have HV1 := Lib.hid hv1
        clear hv1
        go_wp2_with fail
        refine bodyPost_ret (v := .tuple #[v1, v2, .int .i64 0]) (by simp [results, Tryd.results53, go_sem]) rfl (.inr ⟨HIN.out, _, _, rfl, HV1.out, HO2.out.is (S' := Old w S) (fun b h => .inl h) (fun b h => .inr h) (by simp; omega), hb2⟩)
  · rw [decide_eq_false h1] at HE
    have HE := Lib.hid HE
    have HN := Lib.hid h1
    clear h1
    go_enter Tryd.func53, Tryd.ntmps53
    go_wp2_with (go_at_call 90; refine HE.out.mono ?_; rintro e w3 ⟨rfl, rfl⟩)
    refine bodyPost_ret (v := .tuple #[.slice none 0 0, .slice none 0 0, .int .i64 5]) (by simp [results, Tryd.results53, go_sem]) rfl (.inl ⟨HN.out, rfl, Below.refl _ _⟩)
end Go.Proofs.YtjjbhnkplbjfeaaDoor
