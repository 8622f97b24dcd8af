/- A builder of strings: what every writing method does first. -/
import Derived.Test.YtoiipdknamgcmaaGreatDoorShelf
import Derived.Shelf.Strings.Builder1
import Derived.Lib.FrozenHead2
import Derived.Lib.OthersKept
import Derived.Test.YtoiipdknamgcmaaGreatDoorCTxA

set_option linter.unusedVariables false
set_option linter.unusedSimpArgs false
namespace Go.Proofs.YtoiipdknamgcmaaGreatDoor
open Go.RowKit Go.Shelf
attribute [local go_sem] lt_succ_of

theorem block2' {w : World} {b : Nat} {c0 c1 : Value} {t : TypeId} (h : w.heap[b]? = some (.cells #[c0, c1] t (0, 0))) : w.cell? ⟨b, 0, none⟩ = some c0 ∧ w.cell? ⟨b, 1, none⟩ = some c1 := by simp [World.cell?, h]
theorem sizeBuilder : (Tryz.prog.info? 43).map (·.size) = some 2 := by kernel_rfl
theorem liesBuilder : liesAt Tryz.prog Tryz.prog.depth 43 (2 / Tryz.prog.cellsOf 43) 0 43 1 = true := by kernel_rfl
set_option maxRecDepth 100000 in
theorem check_used (b : Nat) (w : World) (h0 : w.cell? ⟨b, 0, none⟩ = some (.pointer (some ⟨b, 0, none⟩))) :
    Calls Tryz.prog 46 #[.pointer (some ⟨b, 0, none⟩)] w fun e w' => e = .returned (.tuple #[]) ∧ w' = w := by
  obtain ⟨j, hj, _⟩ := Option.map_eq_some_iff.1 sizeBuilder
  go_enter Tryz.func46, Tryz.ntmps46
  go_wp2
  rw [Lib.run_neq_ptr_same w _ Tryz.underlying40 hj]
  go_wp2
  go_end0
  exact ⟨rfl, rfl⟩
set_option maxRecDepth 100000 in
theorem check_fresh (b : Nat) (w : World) (h0 : w.cell? ⟨b, 0, none⟩ = some (.pointer none)) (hsh : w.shape? b = some (43, 2)) (hfz : w.frozen? ⟨b, 0, none⟩ = false) :
    Calls Tryz.prog 46 #[.pointer (some ⟨b, 0, none⟩)] w fun e w' => e = .returned (.tuple #[]) ∧ w' = w.setCell ⟨b, 0, none⟩ (.pointer (some ⟨b, 0, none⟩)) := by
  obtain ⟨j, hj, hjs⟩ := Option.map_eq_some_iff.1 sizeBuilder
  go_enter Tryz.func46, Tryz.ntmps46
  go_wp2
  rw [Lib.run_to_unsafe w ⟨b, 0, none⟩ Tryz.underlying40 Tryz.underlying96 hj (by rw [hjs]; decide) hsh (Nat.zero_lt_succ 1)]
  simp only [Result.andThen]
  rw [Oper.upon_value]
  go_wp2
  rw [run_callFunc_extern Tryz.func63 (by kernel_rfl) (by kernel_rfl) (by kernel_rfl) (e := Extern.AbiNoEscape.same) (by kernel_rfl)]
  rw [Lib.run_noEscape]
  simp only [Result.andThen]
  rw [Oper.upon_value]
  go_wp2
  rw [Lib.run_from_unsafe w ⟨b, 0, none⟩ Tryz.underlying96 Tryz.underlying40 hj hsh liesBuilder]
  simp only [Result.andThen]
  rw [Oper.upon_value]
  go_wp2
  go_end0
  exact ⟨rfl, rfl⟩
theorem bcheck_calls (B b : Nat) (bs : List Value) (w : World) (h : Lib.IsBuilderF 43 5 B b bs w) :
    Calls Tryz.prog 46 #[.pointer (some ⟨b, 0, none⟩)] w fun e w' => e = .returned (.tuple #[]) ∧ Lib.BuilderAtF 43 5 B b (.pointer (some ⟨b, 0, none⟩)) bs w' ∧ Below B w w' ∧ Lib.OthersKept 5 (some b) w w' := by
  rcases h with h | h
  · refine (check_fresh b w h.cell0 h.shape h.frozen0).mono ?_
    rintro e w' ⟨rfl, rfl⟩
    exact ⟨rfl, h.used _, (Below.refl B w).setCell (p := ⟨b, 0, none⟩) h.1 _, (Lib.OthersKept.refl _ _ w).setCell ⟨b, 0, none⟩ rfl _⟩
  · refine (check_used b w h.cell0).mono ?_
    rintro e w' ⟨rfl, rfl⟩
    exact ⟨rfl, h, Below.refl B _, Lib.OthersKept.refl _ _ _⟩
/-- What every writing method leaves: the builder, used, with these bytes; the rest as it was. -/
def Wrote (B b : Nat) (bs : List Value) (w w' : World) : Prop := Lib.BuilderAtF 43 5 B b (.pointer (some ⟨b, 0, none⟩)) bs w' ∧ Below B w w' ∧ Lib.OthersKept 5 (some b) w w'
theorem infoB : (Tryz.prog.info? 5).map (fun i => (i.zero, i.size, i.bytes)) = some (some (.int .u8 0), 1, 1) := by kernel_rfl
theorem notByte : 43 ≠ 5 := by decide
theorem wrote_put {B b : Nat} {v v' : Value} {bs bs' : List Value} {w w1 w2 : World} (hB : B ≤ b) (hk : w1.heap[b]? = some (.cells #[.pointer (some ⟨b, 0, none⟩), v] 43 (0, 0))) (hown : w1.ownsRowF B 5 1 v bs.length bs) (hne : v.ownBlock ≠ some b)
    (hb1 : Below B w w1) (hk1 : Lib.OthersKept 5 (some b) w w1) (hown' : w2.ownsRowF B 5 1 v' bs'.length bs') (hg : w1.grownBy w2 v.ownBlock) (hBw : B ≤ w.heap.size) : w2.heap[b]? = some (.cells #[.pointer (some ⟨b, 0, none⟩), v] 43 (0, 0)) ∧ Wrote B b bs' w (w2.setCell ⟨b, 1, none⟩ v') := by
  have hlt := (Array.getElem?_eq_some_iff.1 hk).1
  have hk2 : w2.heap[b]? = some (.cells #[.pointer (some ⟨b, 0, none⟩), v] 43 (0, 0)) := (hg.block b hlt (fun e => hne e.symm)).trans hk
  have hsz := hb1.size
  exact ⟨hk2, Lib.BuilderAtF.put hB hk2 hown' notByte, (hb1.grown hg (by omega) (fun k e => (hown.lt k e).1)).setCell (p := ⟨b, 1, none⟩) hB _, (hk1.grown hg (Lib.ownsRowF_kind hown)).setCell ⟨b, 1, none⟩ rfl _⟩
set_option maxRecDepth 100000 in
set_option maxHeartbeats 4000000 in
theorem wstring_calls (B b : Nat) (bs : List Value) (s : ByteArray) (w : World) (h : Lib.IsBuilderF 43 5 B b bs w) (hlen : bs.length + s.size ≤ 140737488355328) (hBw : B ≤ w.heap.size) :
    Calls Tryz.prog 27 #[.pointer (some ⟨b, 0, none⟩), .string s] w fun e w' => e = .returned (.tuple #[.int .i64 (s.size : Nat), .nilIface]) ∧ Wrote B b (bs ++ Lib.strCells s) w w' := by
  obtain ⟨i0, hi, hz0, hz1, hz2⟩ := info_parts infoB
  have HCK := Lib.hid (bcheck_calls B b bs w h)
  clear h
  go_enter Tryz.func27, Tryz.ntmps27
  go_wp2_with (first
    | (go_at_call 46; refine HCK.out.mono ?_; rintro e w1 ⟨rfl, h1, hb1, hk1⟩; obtain ⟨hB, v, hbk, hown, hne⟩ := h1; obtain ⟨c0, c1⟩ := block2' hbk; have HOWN := Lib.hid hown; have HNE := Lib.hid hne; have HK := Lib.hid hbk; have HB1 := Lib.hid hb1; have HK1 := Lib.hid hk1; have hBs := hb1.size; clear hown hne hbk HCK)
    | (at_builtin; refine Lib.wpList_append_own_stringF _ rfl _ _ 41 9 rfl B 5 i0 Tryz.underlying41 Tryz.underlying9 hi hz0 hz1 hz2 _ _ _ rfl HOWN.out s rfl (by unfold maxLen; omega) (by omega) (by omega) ?_; intro v2 w2 hown2 hg2 _; obtain ⟨hk2, hW⟩ := wrote_put (bs' := bs ++ Lib.strCells s) hB HK.out HOWN.out HNE.out HB1.out HK1.out (by simpa [Lib.strCells_length] using hown2) hg2 hBw; have HW := Lib.hid hW; obtain ⟨d0, d1⟩ := block2' hk2; have f1 : w2.frozen? ⟨b, 1, none⟩ = false := Lib.frozen_of_heap hk2 1; obtain ⟨ao, n2, cap2, rfl⟩ : ∃ ao n' cap, v2 = .slice ao n' cap := (by rcases hown2.2 with ⟨hv, _⟩ | ⟨g, cap, cur, fz, hv, _⟩ <;> exact ⟨_, _, _, hv⟩); clear hW hown2 hg2))
  go_ret2
  exact ⟨rfl, HW.out⟩
theorem one_new (w : World) (x : Value) : ∀ j u, [x][j]? = some u → (w.alloc (.cells #[x] 5)).cell? ((⟨w.heap.size, 0, none⟩ : Addr).add j) = some u := by
  intro j u hj
  match j, hj with
  | 0, hj =>
    simp at hj
    subst hj
    simp [Addr.add]
set_option maxRecDepth 100000 in
set_option maxHeartbeats 4000000 in
theorem wbyte_calls (B b : Nat) (bs : List Value) (c : Int) (w : World) (h : Lib.IsBuilderF 43 5 B b bs w) (hlen : bs.length + 1 ≤ 140737488355328) (hBw : B ≤ w.heap.size) :
    Calls Tryz.prog 49 #[.pointer (some ⟨b, 0, none⟩), .int .u8 c] w fun e w' => e = .returned .nilIface ∧ Wrote B b (bs ++ [.int .u8 c]) w w' := by
  obtain ⟨i0, hi, hz0, hz1, hz2⟩ := info_parts infoB
  have HCK := Lib.hid (bcheck_calls B b bs w h)
  clear h
  go_enter Tryz.func49, Tryz.ntmps49
  go_wp2_with (first
    | (go_at_call 46; refine HCK.out.mono ?_; rintro e w1 ⟨rfl, h1, hb1, hk1⟩; obtain ⟨hB, v, hbk, hown, hne⟩ := h1; obtain ⟨c0, c1⟩ := block2' hbk; have HOWN := Lib.hid hown; have HNE := Lib.hid hne; have HK := Lib.hid hbk; have HB1 := Lib.hid hb1; have HK1 := Lib.hid hk1; have hBs := hb1.size; clear hown hne hbk HCK)
    | (at_builtin; refine wpList_append_ownF _ rfl _ _ 41 rfl B 5 i0 (.int .u8 0) 1 1 Tryz.underlying41 hi hz0 hz1 hz2 rfl (by decide) _ _ _ rfl (HOWN.out.alloc _) ⟨w1.heap.size, 0, none⟩ 1 1 [.int .u8 c] rfl rfl (one_new w1 _) (by intro u hu; simp at hu; subst hu; rfl) (by unfold maxLen; omega) (by omega) (by simp; omega) ?_; intro v2 w2 hown2 hg2 _; obtain ⟨hk2, hW⟩ := wrote_put (bs := bs) (bs' := bs ++ [.int .u8 c]) hB ((Lib.alloc_old w1 _ b (Array.getElem?_eq_some_iff.1 HK.out).1).trans HK.out) (HOWN.out.alloc _) HNE.out (HB1.out.alloc (by omega) _) (HK1.out.alloc _) (by simpa using hown2) hg2 hBw; have HW := Lib.hid hW; obtain ⟨d0, d1⟩ := block2' hk2; have f1 : w2.frozen? ⟨b, 1, none⟩ = false := Lib.frozen_of_heap hk2 1; obtain ⟨ao, n2, cap2, rfl⟩ : ∃ ao n' cap, v2 = .slice ao n' cap := (by rcases hown2.2 with ⟨hv, _⟩ | ⟨g, cap, cur, fz, hv, _⟩ <;> exact ⟨_, _, _, hv⟩); clear hW hown2 hg2))
  go_ret
  exact ⟨rfl, HW.out⟩
set_option maxRecDepth 100000 in
set_option maxHeartbeats 4000000 in
theorem wrune_calls (B b : Nat) (bs : List Value) (r : Int) (hr0 : -2147483648 ≤ r) (hr1 : r ≤ 2147483647) (w : World) (h : Lib.IsBuilderF 43 5 B b bs w) (hlen : bs.length + 4 ≤ 140737488355328) (hBw : B ≤ w.heap.size) :
    Calls Tryz.prog 50 #[.pointer (some ⟨b, 0, none⟩), .int .i32 r] w fun e w' => (∃ k : Nat, e = .returned (.tuple #[.int .i64 k, .nilIface])) ∧ Wrote B b (bs ++ Lib.runeCells r) w w' := by
  have HCK := Lib.hid (bcheck_calls B b bs w h)
  have hk4 := Lib.runeCells_le r
  obtain ⟨R, hR⟩ : ∃ R, (Lib.runeCells r).length = R := ⟨_, rfl⟩
  rw [hR] at hk4
  have HR := Lib.hid hR
  have i1 : IntKind.i64.wrap ((bs.length : Int) + (R : Int) - (bs.length : Int)) = (R : Int) := by
    rw [show (bs.length : Int) + (R : Int) - (bs.length : Int) = (R : Int) by omega]
    exact IntWalk.i64_in _ (by omega)
  clear h hR
  go_enter Tryz.func50, Tryz.ntmps50
  go_wp2_with (first
    | (go_at_call 46; refine HCK.out.mono ?_; rintro e w1 ⟨rfl, h1, hb1, hk1⟩; obtain ⟨hB, v, hbk, hown, hne⟩ := h1; have hf := (by rcases hown.2 with ⟨hv, h0⟩ | ⟨g, cap, cur, fz, hv, _⟩; exact ⟨none, 0, (by rw [hv, h0])⟩; exact ⟨_, _, hv⟩ : ∃ ao cap, v = .slice ao bs.length cap); obtain ⟨ao, cap, rfl⟩ := hf; obtain ⟨c0, c1⟩ := block2' hbk; have HOWN := Lib.hid hown; have HNE := Lib.hid hne; have HK := Lib.hid hbk; have HB1 := Lib.hid hb1; have HK1 := Lib.hid hk1; have hBs := hb1.size; clear hown hne hbk HCK)
    | (go_at_call 68; refine (Tryz.utf8_AppendRune_row B _ bs.length bs r hr0 hr1 w1 HOWN.out hlen (by omega)).mono ?_; rintro e w2 ⟨v2, rfl, hown2, o, hg2⟩; rw [HR.out] at hown2; have hf := (by rcases hown2.2 with ⟨hv, h0⟩ | ⟨g, cap, cur, fz, hv, _⟩; exact ⟨none, 0, (by rw [hv, h0])⟩; exact ⟨_, _, hv⟩ : ∃ ao cap, v2 = .slice ao (bs.length + R) cap); obtain ⟨ao2, cap2, rfl⟩ := hf; obtain ⟨hk2, hW⟩ := wrote_put (bs := bs) (bs' := bs ++ Lib.runeCells r) hB ((Lib.alloc_old w1 _ b (Array.getElem?_eq_some_iff.1 HK.out).1).trans HK.out) (HOWN.out.alloc o) HNE.out (HB1.out.alloc (by omega) o) (HK1.out.alloc o) (by rw [List.length_append, HR.out]; exact hown2) hg2 hBw; have HW := Lib.hid hW; obtain ⟨d0, d1⟩ := block2' hk2; have f1 : w2.frozen? ⟨b, 1, none⟩ = false := Lib.frozen_of_heap hk2 1; clear hW hown2 hg2))
  go_ret2
  exact ⟨⟨R, rfl⟩, HW.out⟩
end Go.Proofs.YtoiipdknamgcmaaGreatDoor
