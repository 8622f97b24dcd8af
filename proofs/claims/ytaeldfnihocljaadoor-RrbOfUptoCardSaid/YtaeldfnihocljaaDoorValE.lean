/- Copies of values in memory of their own. -/
import Derived.Test.YtaeldfnihocljaaDoorProg
import Derived.Test.YtaeldfnihocljaaDoorArr
import Derived.Deep.QuietTactic
import Derived.BigQuiet
import Derived.StillTailTactics
set_option linter.unusedVariables false
set_option linter.unusedSimpArgs false
namespace Go.Proofs.YtaeldfnihocljaaDoor
open Go.RowKit
attribute [local go_sem] lt_succ_of

theorem infoV : (Tryd.prog.info? 31).map (fun i => (i.zero, i.size, i.bytes)) = some (some (.agg #[.int .i64 0, .int .i64 0, .string ⟨#[]⟩, .slice none 0 0]), 4, 56) := by kernel_rfl
/-- The cells that make lays. -/
def zs (n : Nat) : List Value := (madeCells #[.int .i64 0, .int .i64 0, .string ⟨#[]⟩, .slice none 0 0] (n * 4)).toList
theorem zs_length (n : Nat) : (zs n).length = n * 4 := by unfold zs; rw [Array.length_toList, size_madeCells]
theorem make_run (n : Nat) (hn : n ≤ 4294967296) (W : World) :
    (Instr.makeSlice 22 (.int .i64 (n : Int)) (.int .i64 (n : Int))).run Tryd.prog W = .ok (.slice (some ⟨W.heap.size, 0, none⟩) n n) (W.alloc (.cells (zs n).toArray 31)) := by
  obtain ⟨i, hi, hz0, hz1, hz2⟩ := info_parts infoV
  have h := run_make (P := Tryd.prog) W 22 31 i _ Tryd.underlying22 hi hz0 .i64 .i64 (n : Int) (n : Int) (by omega) (by omega) (by rw [hz2]; omega) (by omega)
  rw [h, hz1]
  simp only [Int.toNat_natCast, zs, Value.cells, Array.toArray_toList]
theorem VC.cells {w : World} {S : Nat → Prop} {x : V} {c : List Value} (h : VC w S x c) : ∃ A cap, c = [.int .i64 x.kind, .int .i64 x.num, .string x.text, .slice A x.items.length cap] := by
  obtain ⟨_, A, cap, h, _⟩ := h.eq
  exact ⟨A, cap, h⟩

/-- Copies: of values whose size is below n. -/
def OwnAt (n : Nat) : Prop := ∀ (x : V), V.size x < n → ∀ (vx : Value) (w : World) (S : Nat → Prop) (hx : IsV w S x vx),
    Calls Tryd.prog 48 #[vx] w fun e w' => ∃ v, e = .returned v ∧ IsV w' (fun b => w.heap.size ≤ b) x v ∧ Below w.heap.size w w'
set_option maxHeartbeats 1000000 in
set_option maxRecDepth 100000 in
theorem owns_step (n : Nat) (ih : OwnAt n) (l : List V) (hn : ∀ x ∈ l, V.size x < n) (vl : Value) (w : World) (S : Nat → Prop) (hl : IsS w S l vl) :
    Calls Tryd.prog 44 #[vl] w fun e w' => ∃ v, e = .returned v ∧ IsS w' (fun b => w.heap.size ≤ b) l v ∧ Below w.heap.size w w' := by
  obtain ⟨A, ca, rfl, hca, hla, hA⟩ := hl
  have IH := Lib.hid ih
  have HN := Lib.hid hn
  clear ih hn
  by_cases h0 : l.length = 0
  · obtain rfl : l = [] := List.eq_nil_of_length_eq_zero h0
    clear IH HN
    simp only [List.length_nil]
    go_enter Tryd.func44, Tryd.ntmps44
    go_wp2_with fail
    go_ret
    exact ⟨_, rfl, ⟨none, 0, rfl, by simp, by simp, .inl rfl⟩, Below.refl _ _⟩
  · have h1 : ((l.length : Int) == 0) = false := by simpa using h0
    have hmk := make_run l.length hla
    obtain ⟨w1, hw1, hB1, hsz, hb0⟩ : ∃ w1, w.alloc (.cells (zs l.length).toArray 31) = w1 ∧ Below w.heap.size w w1 ∧ w.heap.size < w1.heap.size ∧ w1.heap[w.heap.size]? = some (.cells (zs l.length).toArray 31 (0, 0)) :=
      ⟨_, rfl, (Below.refl _ _).alloc (Nat.le_refl _) _, by simp, heap_alloc_new w _⟩
    go_enter Tryd.func44, Tryd.ntmps44
    go_wp2_with fail
    have hw1 := Lib.hid hw1
    have H0 := Lib.hid h0
    clear h0 h1 hmk
    go_loopw [14] (fun v wr => ∃ (i : Nat) (p q : List Value), v = .int .i64 i ∧ i ≤ l.length ∧ Hid (wr.heap[w.heap.size]? = some (.cells (p ++ q).toArray 31 (0, 0))) ∧ Hid (CsL wr (fun b => w.heap.size < b) (l.take i) p) ∧ Hid (p.length = i * 4) ∧ Hid (q.length = (l.length - i) * 4) ∧ Below w.heap.size w wr) (fun v _ => l.length - (intOf v).toNat)
    case atStart => exact ⟨0, [], zs l.length, rfl, by omega, Lib.hid (by simpa using hb0), Lib.hid (by rw [List.take_zero]; rfl), Lib.hid rfl, Lib.hid (by rw [zs_length]; omega), hB1⟩
    case round =>
      obtain ⟨i, p, q, rfl, hi, hblk, hcs, hp, hq, hf⟩ := hrel
      have hA' := hA.below hf
      clear hA
      by_cases hlt : i < l.length
      · obtain ⟨ad, A1, cap1, rfl, hla', hbd, f0, f1, f2, f3, hcap, hLA⟩ := hA'.at i hlt
        have hX := IsV.mk hbd hcap hLA
        have HK := Lib.hid fun (w' : World) (hb' : Below wr.heap.size wr w') => IH.out _ (HN.out _ (itemAt_mem hlt)) _ w' S (hX.below hb')
        obtain ⟨a, b, c, d, r, rfl, hr⟩ := split4 hq.out (by omega)
        have hpl := plus0 w.heap.size
        go_wp2_with (go_at_call 48; refine (HK.out _ ((Below.refl _ _).alloc (Nat.le_refl _) _)).mono ?_; rintro e w3 ⟨v, rfl, hv, hb3⟩; obtain ⟨hbv, A2, cap2, rfl, hc2, hLA2⟩ := hv.eq; have hb4 := below_then ((Below.refl _ _).alloc (Nat.le_refl _) _) (by simp) hb3; have hk3 := Lib.hid (blockB hb4 hblk.out); obtain ⟨g0, g1, g2, g3⟩ := cells4 hk3.out hp.out; have hfz := free4 hk3.out)
        go_roundw
        case rel =>
          have hsz' := hf.size
          refine ⟨i + 1, p ++ [.int .i64 (itemAt l i).kind, .int .i64 (itemAt l i).num, .string (itemAt l i).text, .slice A2 (itemAt l i).items.length cap2], r, by go_num, by omega, Lib.hid ?_, Lib.hid ?_, Lib.hid ?_, Lib.hid ?_, ?_⟩
          · have := block4set hk3.out hp.out (.int .i64 (itemAt l i).kind) (.int .i64 (itemAt l i).num) (.string (itemAt l i).text) (.slice A2 (itemAt l i).items.length cap2)
            simpa using this
          · rw [itemAt_take hlt]
            have hns : ∀ j, ¬ (fun b => w.heap.size < b) (⟨w.heap.size, j, none⟩ : Addr).block := fun j h => absurd h (Nat.lt_irrefl _)
            have hK : Keeps w3 (fun b => w.heap.size < b) _ _ := (((Keeps.set (hns (i * 4)) (.int .i64 (itemAt l i).kind)).trans (Keeps.set (hns (i * 4 + 1)) (.int .i64 (itemAt l i).num))).trans (Keeps.set (hns (i * 4 + 2)) (.string (itemAt l i).text))).trans (Keeps.set (hns (i * 4 + 3)) (.slice A2 (itemAt l i).items.length cap2))
            refine CsL.snoc ((hcs.out.keep (Keeps.below hb4)).keep hK) ?_
            exact VC.mk hbv hc2 (hLA2.keep ((Keeps.weak fun b (h : (wr.alloc _).heap.size ≤ b) => show w.heap.size < b by rw [World.size_alloc] at h; omega).trans hK))
          · simp [hp.out]; omega
          · rw [hr]
            congr 1
          · exact (((( below_then hf hf.size hb4).setCell (Nat.le_refl _) _).setCell (Nat.le_refl _) _).setCell (Nat.le_refl _) _).setCell (Nat.le_refl _) _
        case measure => simp [intOf]; omega
      · have he : i = l.length := by omega
        subst he
        have H : LA wr (fun b => w.heap.size ≤ b) l (some ⟨w.heap.size, 0, none⟩) := by
          have h1 := hcs.out.keep (Keeps.weak (S' := fun b => w.heap.size ≤ b) fun b h => Nat.le_of_lt h)
          rw [List.take_length] at h1
          exact h1.la_more hblk.out (Nat.le_refl _)
        have H := Lib.hid H
        go_wp2_with fail
        go_ret
        exact ⟨_, rfl, ⟨_, _, rfl, Nat.le_refl _, hla, H.out⟩, hf⟩
set_option maxRecDepth 100000 in
theorem own_step (n : Nat) (ih : OwnAt n) : OwnAt (n + 1) := by
  intro x hn vx w S hx
  obtain ⟨hbx, A, ca, rfl, hca, hA⟩ := hx.eq
  have hO : ∀ w', Below w.heap.size w w' → Calls Tryd.prog 44 #[.slice A x.items.length ca] w' fun e w'' => ∃ v, e = .returned v ∧ IsS w'' (fun b => w'.heap.size ≤ b) x.items v ∧ Below w'.heap.size w' w'' :=
    fun w' hb => owns_step n ih x.items (fun y hy => by have := V.size_items hy; omega) _ w' S (IsV.items hbx hca (hA.below hb))
  have HO := Lib.hid hO
  clear hO ih hx hA
  obtain ⟨w1, hw1, hB1, hsz, hb0, hb1⟩ := boxes2 w (.int .i64 x.kind) (.int .i64 x.num) (.string x.text) (.slice A x.items.length ca) (.int .i64 0) (.int .i64 0) (.string ⟨#[]⟩) (.slice none 0 0) 31
  obtain ⟨a0, a1, a2, a3⟩ := block4 hb0
  obtain ⟨e0, e1, e2, e3⟩ := block4 hb1
  have HB0 := Lib.hid hb0
  have HB1 := Lib.hid hb1
  clear hb0 hb1
  go_enter Tryd.func48, Tryd.ntmps48
  go_wp2_with (go_at_call 44; refine (HO.out _ hB1).mono ?_; rintro e w2 ⟨v, rfl, hv, hb2⟩; obtain ⟨A2, cap2, rfl, hc2, hl2, hLA2⟩ := hv; have a0' := cellB hb2 a0; have a1' := cellB hb2 a1; have a2' := cellB hb2 a2; have a3' := cellB hb2 a3; have e0' := cellB hb2 e0; have e1' := cellB hb2 e1; have e2' := cellB hb2 e2; have e3' := cellB hb2 e3; have fz0 := free4 (blockB hb2 HB0.out); have fz1 := free4 (blockB hb2 HB1.out); clear a0 a1 a2 a3 e0 e1 e2 e3)
  refine bodyPost_ret (v := .agg #[.int .i64 x.kind, .int .i64 x.num, .string x.text, .slice A2 x.items.length cap2]) (by simp [results, Tryd.results48, go_sem, e0', e1', e2', e3']) rfl ⟨_, rfl, ?_, ?_⟩
  · have hn : ∀ b, b < w1.heap.size → ¬ (fun b => w1.heap.size ≤ b) b := fun b h (h' : w1.heap.size ≤ b) => by omega
    refine IsV.mk hbx hc2 ((LA.keep (S := fun b => w1.heap.size ≤ b) (S' := fun b => w1.heap.size ≤ b) ?_ hLA2).keep (Keeps.weak fun b (h : w1.heap.size ≤ b) => show w.heap.size ≤ b by omega))
    repeat refine Keeps.set_after ?_ (hn _ (by simp; omega)) _
    exact Keeps.refl _ _
  · repeat refine Below.setCell ?_ (by simp) _
    exact below_then hB1 hB1.size hb2
theorem own_all : ∀ n, OwnAt n
  | 0 => fun x h => absurd h (Nat.not_lt_zero _)
  | n + 1 => own_step n (own_all n)
/-- A value in memory of its own. -/
theorem own_calls (x : V) (vx : Value) (w : World) (S : Nat → Prop) (hx : IsV w S x vx) :
    Calls Tryd.prog 48 #[vx] w fun e w' => ∃ v, e = .returned v ∧ IsV w' (fun b => w.heap.size ≤ b) x v ∧ Below w.heap.size w w' := own_all _ x (Nat.lt_succ_self _) vx w S hx
theorem owns_calls (l : List V) (vl : Value) (w : World) (S : Nat → Prop) (hl : IsS w S l vl) :
    Calls Tryd.prog 44 #[vl] w fun e w' => ∃ v, e = .returned v ∧ IsS w' (fun b => w.heap.size ≤ b) l v ∧ Below w.heap.size w w' :=
  owns_step _ (own_all (V.sizes l + 1)) l (fun x hx => Nat.lt_succ_of_le (V.sizes_mem hx)) vl w S hl
end Go.Proofs.YtaeldfnihocljaaDoor
