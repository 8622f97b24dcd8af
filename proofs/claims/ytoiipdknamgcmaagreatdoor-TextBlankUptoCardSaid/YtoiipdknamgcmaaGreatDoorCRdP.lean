/- All forms; letters; how a whole text begins. What is wrong is caught. Something is done, and what is wrong is caught. -/
import Derived.Defers
import Derived.Recover
import Derived.StillTailTactics
import Derived.Test.YtoiipdknamgcmaaGreatDoorCRdO
/- All forms; letters; how a whole text begins. -/
set_option linter.unusedVariables false
set_option linter.unusedSimpArgs false
namespace Go.Proofs.YtoiipdknamgcmaaGreatDoor
open Go.RowKit Go.Shelf
attribute [local go_sem] lt_succ_of

theorem all_at (m : Bool) (hS : SetC) (hPA : ∀ k, ItemsAt m k → PairsAt m k) : ∀ n, AllAt m n
  | 0 => fun j hj => by
    obtain rfl : j = 0 := by omega
    exact ⟨fun d f p rb s w _ _ h => absurd (by rw [skipF]) h, fun d f p rb s w _ _ h => absurd (by rw [formF]) h, fun e d f p rb s w _ _ h => absurd (by rw [itemsF]) h⟩
  | n + 1 => fun j hj => by
    have ih := all_at m hS hPA n
    by_cases h : j ≤ n
    · exact ih j h
    · obtain rfl : j = n + 1 := by omega
      exact ⟨skip_step m n ih, form_step m n ih hS hPA, items_step m n ih⟩
set_option maxRecDepth 100000 in
set_option maxHeartbeats 4000000 in
theorem tletters_calls (s : ByteArray) (w : World) (hs : s.size ≤ 65536) (hT : Lib.Utf8Tabs 1 2 w) :
    Calls Tryz.prog 36 #[.string s] w fun e w' => (if utfFrom s 0 = true then ∃ k : Int, e = .returned (.tuple #[.int .i64 k, .int .i64 0, .bool true]) else ∃ q : Nat, q ≤ s.size ∧ e = .returned (.tuple #[.int .i64 0, .int .i64 q, .bool false])) ∧ Below w.heap.size w w' := by
  have HT := Lib.hid hT
  clear hT
  obtain ⟨U, hU⟩ : ∃ U, utfFrom s 0 = U := ⟨_, rfl⟩
  rw [hU]
  obtain ⟨w1, hw1, hB1, hI1⟩ : ∃ w1, w.iter s 0 = w1 ∧ Below w.heap.size w w1 ∧ w1.heap[w.heap.size]? = some (.stringIter s 0) := ⟨_, rfl, (Below.refl _ _).alloc (Nat.le_refl _) _, World.iter_heap _ _ _⟩
  go_enter Tryz.func36, Tryz.ntmps36
  go_wp2_with fail
  have hw1 := Lib.hid hw1
  go_loopw [5] (fun vn wr => ∃ pos k : Nat, vn = .int .i64 k ∧ k ≤ pos ∧ pos ≤ s.size + 4 ∧ wr.heap[w.heap.size]? = some (.stringIter s pos) ∧ Hid (utfFrom s pos = U) ∧ Below w.heap.size w wr) (fun _ wr => s.size - wr.iterPos w.heap.size)
  case atStart => exact ⟨0, 0, rfl, Nat.le_refl _, by omega, hI1, Lib.hid hU, hB1⟩
  case round =>
    obtain ⟨pos, k, rfl, hkp, hps, hI, hu, hb⟩ := hrel
    clear hw1 hI1 hB1 hU
    by_cases hlt : pos < s.size
    · have hnx := fun ty => Lib.run_next_any_at (P := Tryz.prog) wr w.heap.size s pos ty hI hlt
      have hwd := Lib.width_pos s pos
      have hwd4 := width_le s pos
      have hI2 := Lib.iterAt_heap wr w.heap.size s pos (pos + (Utf8.decode s pos).2) hI
      have hb2 := Lib.below_iterAt hb (Nat.le_refl _) s (pos + (Utf8.decode s pos).2)
      have hp1 : wr.iterPos w.heap.size = pos := by simp [World.iterPos, hI]
      obtain ⟨w2, hw2⟩ : ∃ w2, wr.iterAt w.heap.size s (pos + (Utf8.decode s pos).2) = w2 := ⟨_, rfl⟩
      rw [hw2] at hI2 hb2
      have hp2 : w2.iterPos w.heap.size = pos + (Utf8.decode s pos).2 := by simp [World.iterPos, hI2]
      have HP1 := Lib.hid hp1
      have HP2 := Lib.hid hp2
      have HI2 := Lib.hid hI2
      clear hp1 hp2 hI2
      have hD := Tryz.utf8_DecodeRuneInString (s.extract pos s.size) w2 (tabs_below HT.out hb2)
      rw [decode_tail s pos hlt] at hD
      have HD := Lib.hid hD
      clear hD
      have hstep : ∀ w3, Below w2.heap.size w2 w3 → Hid (Utf8.decode s pos ≠ (65533, 1)) → (∃ pos' k' : Nat, Value.int .i64 ((k : Int) + 1) = .int .i64 k' ∧ k' ≤ pos' ∧ pos' ≤ s.size + 4 ∧ w3.heap[w.heap.size]? = some (.stringIter s pos') ∧ Hid (utfFrom s pos' = U) ∧ Below w.heap.size w w3) ∧ s.size - w3.iterPos w.heap.size < s.size - wr.iterPos w.heap.size := fun w3 hb3 hg => by
        have h3 := (hb3.block _ (Array.getElem?_eq_some_iff.1 HI2.out).1).trans HI2.out
        refine ⟨⟨pos + (Utf8.decode s pos).2, k + 1, by simp, by omega, by omega, h3, Lib.hid (by rw [← hu.out, utfFrom_good hlt hg.out]), below_then hb2 hb2.size hb3⟩, ?_⟩
        rw [HP1.out, show w3.iterPos w.heap.size = pos + (Utf8.decode s pos).2 by simp [World.iterPos, h3]]
        omega
      have HSTEP := Lib.hid hstep
      clear hstep
      by_cases h1 : (Utf8.decode s pos).1 = 65533
      · have h1' : (((Utf8.decode s pos).1 : Int) == 65533) = true := by rw [h1]; rfl
        by_cases h2 : (Utf8.decode s pos).2 = 1
        · have h2' : (((Utf8.decode s pos).2 : Int) == 1) = true := by rw [h2]; rfl
          have hbad : Utf8.decode s pos = (65533, 1) := Prod.ext h1 h2
          obtain rfl : U = false := by rw [← hu.out, utfFrom_bad hlt hbad]
          clear h1 h2 hbad
          go_wp2_with (go_at_call 52; refine HD.out.mono ?_; rintro e w3 ⟨rfl, hb3⟩)
          go_ret3
          exact ⟨⟨pos, by omega, rfl⟩, below_then hb2 hb2.size hb3⟩
        · have h2' : (((Utf8.decode s pos).2 : Int) == 1) = false := by simp; omega
          have hgood : Hid (Utf8.decode s pos ≠ (65533, 1)) := Lib.hid fun e => h2 (by rw [e])
          clear h1 h2
          go_wp2_with (go_at_call 52; refine HD.out.mono ?_; rintro e w3 ⟨rfl, hb3⟩)
          exact HSTEP.out w3 hb3 hgood
      · have h1' : (((Utf8.decode s pos).1 : Int) == 65533) = false := by rw [beq_eq_false_iff_ne]; omega
        have hgood : Hid (Utf8.decode s pos ≠ (65533, 1)) := Lib.hid fun e => h1 (by rw [e])
        clear h1
        go_wp2_with fail
        exact HSTEP.out w2 (Below.refl _ _) hgood
    · have hnx := fun ty => Lib.run_next_end_at (P := Tryz.prog) wr w.heap.size s pos ty hI hlt
      obtain rfl : U = true := by rw [← hu.out, utfFrom_end hlt]
      go_wp2_with fail
      go_ret3
      exact ⟨⟨_, rfl⟩, hb⟩
/-- What is wrong with a whole text. -/
def BegunIs (s : ByteArray) (e : Ending) : Prop := if 65536 < s.size then e = .returned (.tuple #[.int .i64 2, .int .i64 0]) else if utfFrom s 0 = true then e = .returned (.tuple #[.int .i64 0, .int .i64 0]) else ∃ q : Nat, q ≤ s.size ∧ e = .returned (.tuple #[.int .i64 20, .int .i64 q])
set_option maxRecDepth 100000 in
set_option maxHeartbeats 4000000 in
theorem begun_calls (s : ByteArray) (w : World) (hT : Lib.Utf8Tabs 1 2 w) :
    Calls Tryz.prog 20 #[.string s] w fun e w' => BegunIs s e ∧ Below w.heap.size w w' := by
  unfold BegunIs
  by_cases hs : 65536 < s.size
  · simp only [if_pos hs]
    have h1 : decide ((65536 : Int) < (s.size : Int)) = true := decide_eq_true (by omega)
    have h2 : (65536 : Int) < (s.size : Int) := by omega
    clear hs
    go_enter Tryz.func20, Tryz.ntmps20
    go_wp2_with fail
    go_ret2
    exact ⟨rfl, Below.refl _ _⟩
  · simp only [if_neg hs]
    have h1 : decide ((65536 : Int) < (s.size : Int)) = false := decide_eq_false (by omega)
    have h2 : ¬ (65536 : Int) < (s.size : Int) := by omega
    have HL := Lib.hid (tletters_calls s w (by omega) hT)
    clear hs
    cases hu : utfFrom s 0 with
    | true =>
      rw [hu] at HL
      simp only [if_true]
      go_enter Tryz.func20, Tryz.ntmps20
      go_wp2_with (go_at_call 36; refine HL.out.mono ?_; rintro e w2 ⟨hk, hb⟩; rw [if_pos rfl] at hk; obtain ⟨k, rfl⟩ := hk)
      go_ret2
      exact ⟨rfl, hb⟩
    | false =>
      rw [hu] at HL
      simp only [Bool.false_eq_true, if_false]
      go_enter Tryz.func20, Tryz.ntmps20
      go_wp2_with (go_at_call 36; refine HL.out.mono ?_; rintro e w2 ⟨hk, hb⟩; rw [if_neg (by decide)] at hk; obtain ⟨q, hq, rfl⟩ := hk)
      go_ret2
      exact ⟨⟨q, hq, rfl⟩, hb⟩
end Go.Proofs.YtoiipdknamgcmaaGreatDoor

/- What is wrong is caught. -/
set_option linter.unusedVariables false
set_option linter.unusedSimpArgs false
namespace Go.Proofs.YtoiipdknamgcmaaGreatDoor
open Go.RowKit Go.Shelf

theorem asRef (a b : Value) (w : World) : (Instr.typeAssert (.iface 73 (.agg #[a, b])) 20 73 true).run Tryz.prog w = .ok (.tuple #[.agg #[a, b], .bool true]) w := by kernel_rfl
theorem catch_idle (p q : Addr) (w : World) :
    CallsD Tryz.prog 37 #[.pointer (some p), .pointer (some q)] .returning w fun e u' w' => e = .returned (.tuple #[]) ∧ u' = .returning ∧ w' = w := by
  refine callsD_of_wpS Tryz.func37 rfl fun c₀ cs hu => ?_
  apply wpS_seq
  apply wpS_region
  simp [wpOpsS, go_sem, recoverD, hu, Tryz.ntmps37, Exit.thenS]
  apply wpS_seq
  apply wpS_region
  simp [wpOpsS, go_sem, Exit.thenS]
  refine wpS_cond (t := false) (by simp [Act.eval, Array.replicate]) ?_
  simp only [Bool.false_eq_true, if_false]
  refine wpS_of_wp (wp_skip ?_)
  cases c₀
  simp_all [bodyPostS, results, Tryz.results37]
set_option maxRecDepth 100000 in
set_option maxHeartbeats 4000000 in
theorem catch_panicking (P Q : Nat) (n k x y : Int) (older : List PanicEntry) (w : World) (hp : w.cell? ⟨P, 0, none⟩ = some (.int .i64 x)) (hq : w.cell? ⟨Q, 0, none⟩ = some (.int .i64 y)) (fp : w.frozen? ⟨P, 0, none⟩ = false) (fq : w.frozen? ⟨Q, 0, none⟩ = false) (hpb : P < w.heap.size) (hqb : Q < w.heap.size) (hpq : P ≠ Q) :
    CallsD Tryz.prog 37 #[.pointer (some ⟨P, 0, none⟩), .pointer (some ⟨Q, 0, none⟩)] (.panicking ({ v := .iface 73 (.agg #[.int .i64 n, .int .i64 k]), recovered := false } :: older)) w fun e u' w' =>
      e = .returned (.tuple #[]) ∧ u' = .panicking ({ v := .iface 73 (.agg #[.int .i64 n, .int .i64 k]), recovered := true } :: older) ∧ But (fun b => b = P ∨ b = Q) w w' ∧ w'.cell? ⟨P, 0, none⟩ = some (.int .i64 n) ∧ w'.cell? ⟨Q, 0, none⟩ = some (.int .i64 k) := by
  have hta := asRef
  refine callsD_of_wpS Tryz.func37 rfl fun c₀ cs hu => ?_
  apply wpS_seq
  apply wpS_region
  simp [wpOpsS, go_sem, recoverD, hu, Tryz.ntmps37, Exit.thenS]
  apply wpS_seq
  apply wpS_region
  simp [wpOpsS, go_sem, Exit.thenS]
  refine wpS_cond (t := true) (by simp [Act.eval, Array.replicate]) ?_
  simp only [if_true]
  refine wpS_of_wp ?_
  change Code.wp _ _ _ { tmps := #[.pointer (some ⟨P, 0, none⟩), .pointer (some ⟨Q, 0, none⟩), .iface 73 (.agg #[.int .i64 n, .int .i64 k]), undef, undef, .iface 73 (.agg #[.int .i64 n, .int .i64 k]), .iface 73 (.agg #[.int .i64 n, .int .i64 k]), .bool true, undef, undef, undef, undef, undef, undef, undef, undef, undef, undef, undef, undef], defers := [] } w
  obtain ⟨w1, hw1, hb1, hsz⟩ : ∃ w1, w.alloc (.cells #[.int .i64 n, .int .i64 k] 73) = w1 ∧ w1.heap[w.heap.size]? = some (.cells #[.int .i64 n, .int .i64 k] 73 (0, 0)) ∧ Below w.heap.size w w1 := ⟨_, rfl, heap_alloc_new w _, (Below.refl _ _).alloc (Nat.le_refl _) _⟩
  have e0 : w1.cell? ⟨w.heap.size, 0, none⟩ = some (.int .i64 n) := by simp [World.cell?, hb1]
  have e1 : w1.cell? ⟨w.heap.size, 1, none⟩ = some (.int .i64 k) := by simp [World.cell?, hb1]
  have hp1 := cellB hsz hp
  have hq1 := cellB hsz hq
  have fp1 : w1.frozen? ⟨P, 0, none⟩ = false := by rw [← fp]; unfold World.frozen?; rw [hsz.block _ hpb]
  have fq1 : w1.frozen? ⟨Q, 0, none⟩ = false := by rw [← fq]; unfold World.frozen?; rw [hsz.block _ hqb]
  have hpw : ¬ P = w.heap.size := Nat.ne_of_lt hpb
  have hqw : ¬ Q = w.heap.size := Nat.ne_of_lt hqb
  have hqp : ¬ Q = P := fun e => hpq e.symm
  have hpq2 : ¬ P = Q := hpq
  go_wp2_with fail
  go_region
  have hbut : But (fun b => b = P ∨ b = Q) w (((w1.setCell ⟨P, 0, none⟩ (.int .i64 n)).setCell ⟨Q, 0, none⟩ (.int .i64 k)).drew) := ((But.set (M := fun b => b = P ∨ b = Q) (But.set (M := fun b => b = P ∨ b = Q) (But.of hsz) (.inr (.inl rfl)) _) (.inr (.inr rfl)) _).drewN 1)
  show bodyPostS _ _ _ _ _ _ _ _ _
  refine ⟨rfl, _, rfl, .tuple #[], ?_, rfl, rfl, hbut, ?_, ?_⟩
  · simp [results, Tryz.results37, go_sem]
  · simp [World.cell?_setCell_same, hp1, hpq2, hqp, go_sem]
  · simp [World.cell?_setCell_same, hq1, hpq2, hqp, go_sem]
end Go.Proofs.YtoiipdknamgcmaaGreatDoor

/- Something is done, and what is wrong is caught. -/
set_option linter.unusedVariables false
set_option linter.unusedSimpArgs false
namespace Go.Proofs.YtoiipdknamgcmaaGreatDoor
open Go.RowKit Go.Shelf
attribute [local go_sem] lt_succ_of

theorem two_boxes (w : World) : ∃ w1, (w.alloc (.cells #[.int .i64 0] 25)).alloc (.cells #[.int .i64 0] 3) = w1 ∧ Below w.heap.size w w1 ∧ w1.heap.size = w.heap.size + 2 ∧ w1.heap[w.heap.size]? = some (.cells #[.int .i64 0] 25 (0, 0)) ∧ w1.heap[w.heap.size + 1]? = some (.cells #[.int .i64 0] 3 (0, 0)) := by
  refine ⟨_, rfl, ((Below.refl _ _).alloc (Nat.le_refl _) _).alloc (by simp) _, by simp, ?_, ?_⟩
  · rw [Below.heap_alloc _ _ _ (by simp)]
    exact heap_alloc_new w _
  · have := heap_alloc_new (w.alloc (.cells #[.int .i64 0] 25)) (.cells #[.int .i64 0] 3)
    simpa using this
theorem box_cell {w : World} {b : Nat} {c : Value} {t : TypeId} (h : w.heap[b]? = some (.cells #[c] t (0, 0))) : w.cell? ⟨b, 0, none⟩ = some c ∧ w.frozen? ⟨b, 0, none⟩ = false := by simp [World.cell?, World.frozen?, h]
set_option maxRecDepth 100000 in
set_option maxHeartbeats 4000000 in
theorem caught_ok (cb : Array Value) (w : World) (C : Nat) (hC : C ≤ w.heap.size) (R : World → Prop) (hR : ∀ a b : World, R a → But (fun k => k = w.heap.size ∨ k = w.heap.size + 1) a b → R b)
    (hg : ∀ w1, Below w.heap.size w w1 → w1.heap.size = w.heap.size + 2 → Calls Tryz.prog 22 cb w1 fun e w' => (∃ v, e = .returned v) ∧ But (fun b => C ≤ b ∧ b < w.heap.size) w1 w' ∧ R w') :
    Calls Tryz.prog 21 #[.func (.func 22) #[] cb] w fun e w' => e = .returned (.tuple #[.int .i64 0, .int .i64 0]) ∧ But (fun b => C ≤ b) w w' ∧ R w' := by
  have hmf : ∀ (fn : Fn) (first cap : Array Value) (w : World), (Instr.makeFunc fn first cap).run Tryz.prog w = .ok (.func fn first cap) w := fun _ _ _ _ => rfl
  obtain ⟨w1, hw1, hB1, hs1, hb0, hb1⟩ := two_boxes w
  have HG := Lib.hid (hg w1 hB1 hs1)
  go_enter_defers Tryz.func21, Tryz.ntmps21
  go_wp2_with (go_at_call 22; refine HG.out.mono ?_; rintro e w2 ⟨⟨v, rfl⟩, hb2, hR2⟩; have HR2 := Lib.hid hR2; have h0 := (hb2.block w.heap.size (by omega) (by omega)).trans hb0; have h1 := (hb2.block (w.heap.size + 1) (by omega) (by omega)).trans hb1; obtain ⟨e0, f0⟩ := box_cell h0; obtain ⟨e1, f1⟩ := box_cell h1; clear hR2)
  refine leaves_cons (f := 37) (args := #[.pointer (some ⟨w.heap.size, 0, none⟩), .pointer (some ⟨w.heap.size + 1, 0, none⟩)]) (by simp) (by simp [go_sem]) ?_
  refine (catch_idle ⟨w.heap.size, 0, none⟩ ⟨w.heap.size + 1, 0, none⟩ _).mono ?_
  rintro e u' w'' ⟨rfl, rfl, rfl⟩
  have hbx : But (fun k => k = w.heap.size ∨ k = w.heap.size + 1) w2 ((w2.setCell ⟨w.heap.size, 0, none⟩ (.int .i64 0)).setCell ⟨w.heap.size + 1, 0, none⟩ (.int .i64 0)) := But.set (M := fun k => k = w.heap.size ∨ k = w.heap.size + 1) (But.set (M := fun k => k = w.heap.size ∨ k = w.heap.size + 1) (But.of (Below.refl _ _)) (.inr (.inl rfl)) _) (.inr (.inr rfl)) _
  have hall : But (fun b => C ≤ b) w w2 := (But.of hB1).trans (hb2.mono fun b _ h => h.1)
  have hfin := hR _ _ HR2.out hbx
  have hall2 := hall.trans (hbx.mono fun b _ h => show C ≤ b by omega)
  simp [Leaves, settle, results, Tryz.results21, go_sem, e0, e1]
  exact ⟨hall2, hfin⟩
set_option maxRecDepth 100000 in
set_option maxHeartbeats 4000000 in
theorem caught_bad (cb : Array Value) (w : World) (n k : Int) (C : Nat) (hC : C ≤ w.heap.size)
    (hg : ∀ w1, Below w.heap.size w w1 → w1.heap.size = w.heap.size + 2 → Calls Tryz.prog 22 cb w1 fun e w' => e = .panicked [{ v := .iface 73 (.agg #[.int .i64 n, .int .i64 k]), recovered := false }] ∧ But (fun b => C ≤ b ∧ b < w.heap.size) w1 w') :
    Calls Tryz.prog 21 #[.func (.func 22) #[] cb] w fun e w' => e = .returned (.tuple #[.int .i64 n, .int .i64 k]) ∧ But (fun b => C ≤ b) w w' := by
  have hmf : ∀ (fn : Fn) (first cap : Array Value) (w : World), (Instr.makeFunc fn first cap).run Tryz.prog w = .ok (.func fn first cap) w := fun _ _ _ _ => rfl
  obtain ⟨w1, hw1, hB1, hs1, hb0, hb1⟩ := two_boxes w
  have HG := Lib.hid (hg w1 hB1 hs1)
  go_enter_defers Tryz.func21, Tryz.ntmps21
  go_wp2_with (go_at_call 22; refine HG.out.mono ?_; rintro e w2 ⟨rfl, hb2⟩; have h0 := (hb2.block w.heap.size (by omega) (by omega)).trans hb0; have h1 := (hb2.block (w.heap.size + 1) (by omega) (by omega)).trans hb1; obtain ⟨e0, f0⟩ := box_cell h0; obtain ⟨e1, f1⟩ := box_cell h1)
  refine leaves_cons (f := 37) (args := #[.pointer (some ⟨w.heap.size, 0, none⟩), .pointer (some ⟨w.heap.size + 1, 0, none⟩)]) (by simp) (by simp [go_sem]) ?_
  have hs2 := hb2.size
  refine (catch_panicking w.heap.size (w.heap.size + 1) n k 0 0 [] w2 e0 e1 f0 f1 (by omega) (by omega) (by omega)).mono ?_
  rintro e u' w'' ⟨rfl, rfl, hbx, g0, g1⟩
  have hall : But (fun b => C ≤ b) w w2 := (But.of hB1).trans (hb2.mono fun b _ h => h.1)
  have hall2 := hall.trans (hbx.mono fun b _ h => show C ≤ b by omega)
  simp [Leaves, settle, results, Tryz.results21, go_sem, g0, g1]
  exact hall2
end Go.Proofs.YtoiipdknamgcmaaGreatDoor
