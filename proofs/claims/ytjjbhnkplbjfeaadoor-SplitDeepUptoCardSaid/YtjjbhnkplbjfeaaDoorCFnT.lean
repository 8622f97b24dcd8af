/- A deque without its first, its last item. -/
import Derived.Test.YtjjbhnkplbjfeaaDoorCFnS

set_option linter.unusedVariables false
set_option linter.unusedSimpArgs false
namespace Go.Proofs.YtjjbhnkplbjfeaaDoor
open Go.RowKit
attribute [local go_sem] lt_succ_of methItem methNode asItem asNode isNode noNode fieldNode fieldItem notNil

/-- The first item. -/
def popFX (l : List V) : V := itemAt l 0
theorem popX_at {l : List V} (h : 0 < l.length) : popX l = itemAt l (l.length - 1) := by
  unfold popX nthV
  rw [if_pos (by omega)]
  simp only
  congr 1
  omega
theorem popX_end (l : List V) (x : V) : popX (l ++ [x]) = x := by
  rw [popX_at (by simp), itemAt, List.getD_eq_getElem?_getD]
  simp
theorem popFX_zero : popFX [] = V.zero := rfl
theorem popX_zero : popX [] = V.zero := rfl
set_option maxRecDepth 100000 in
set_option maxHeartbeats 8000000 in
theorem dpopfirst_calls (l : List V) (p : Option Addr) (w : World) (S : Nat → Prop) (h : IsD w S l p) :
    Calls Tryd.prog 24 #[.pointer p] w fun e w' => ∃ p' vx, e = .returned (.tuple #[.pointer p', vx, .int .i64 (popE l)]) ∧ IsV w' (fun b => w.heap.size ≤ b) (popFX l) vx ∧ ((l = [] ∧ p' = none) ∨ (l ≠ [] ∧ ∃ b, p' = some ⟨b, 0, none⟩ ∧ IsE w' (Old w S) (l.tail) b)) ∧ Below w.heap.size w w' := by
  obtain ⟨w1, hw1, hB1, hsz, hb0⟩ := box0 w 33 (.int .i64 0) (.int .i64 0) (.string ⟨#[]⟩) (.slice none 0 0)
  obtain ⟨e0, e1, e2, e3⟩ := block4 hb0
  have fz := free4 hb0
  have hl1 : w.heap.size < w1.heap.size := by omega
  have HLN := Lib.hid (len_calls l p w1 S (h.below hB1))
  by_cases h0 : l.length = 0
  · obtain rfl : l = [] := List.eq_nil_of_length_eq_zero h0
    simp only [List.length_nil] at HLN
    clear hb0 h
    go_enter Tryd.func24, Tryd.ntmps24
    go_wp2_with (go_at_call 33; refine HLN.out.mono ?_; rintro e w2 ⟨rfl, rfl⟩)
    refine bodyPost_ret (v := .tuple #[.pointer none, .agg #[.int .i64 0, .int .i64 0, .string ⟨#[]⟩, .slice none 0 0], .int .i64 6]) (by simp [results, Tryd.results24, go_sem, e0, e1, e2, e3]) rfl ⟨none, _, rfl, zero_is _ _, .inl ⟨by trivial, rfl⟩, ?_⟩
    repeat refine Below.setCell ?_ (by simp) _
    exact hB1
  · have hpe : popE l = 0 := by unfold popE; rw [if_neg h0]
    have hne : l ≠ [] := fun e => h0 (by rw [e]; rfl)
    have h2 : ((l.length : Int) == 0) = false := beq_eq_false_iff_ne.2 (by omega)
    obtain ⟨hl65, ⟨rfl, e⟩ | ⟨b, t, q, rfl, hs, c0, hf, ho, hi⟩⟩ := h
    · exact absurd e hne
    have hnn : t.isNil = false := by
      cases t with
      | nil => exact absurd hi.symm hne
      | mk => rfl
    obtain ⟨o1, o2, o3⟩ := first_ok ho hnn
    obtain ⟨x, hx⟩ := o1.zero
    have hix : l = [x] ++ t.first.2.items := by rw [← hi, o3, hx, pitem_items]
    have hpx : popFX l = x := by rw [hix]; rfl
    have hrest : l.tail = t.first.2.items := by rw [hix]; rfl
    have HFI := Lib.hid (first_calls t 0 q w1 (fun b => S b ∧ b < w.heap.size) (hf.keep (Keeps.below_to hB1 fun b h1 h2 => ⟨h2, h1⟩)) ho hnn (by rw [hi]; omega))
    have c1 := cellB hB1 c0
    have hbl := World.block_lt_of_cell? w1 _ c1
    have HB0 := Lib.hid hb0
    have HX := Lib.hid hx
    have HO := Lib.hid o2
    have HL := Lib.hid hl65
    have HR := Lib.hid hrest
    have HN := Lib.hid hne
    have hle : (l.tail).length ≤ 65536 := by have := congrArg List.length hix; simp at this ⊢; omega
    have HLE := Lib.hid hle
    rw [hpe, hpx]
    clear hf hs c0 hb0 hi o1 o2 o3 hx hix hpx hpe ho hl65 hrest hne h0 hnn hle
    go_enter Tryd.func24, Tryd.ntmps24
    go_wp2_with (first
      | (go_at_call 33; refine HLN.out.mono ?_; rintro e w2 ⟨rfl, rfl⟩)
      | (go_at_call 75; refine HFI.out.mono ?_; rintro e w3 ⟨u3, p3, rfl, hu3, hp3, hb3⟩; rw [HX.out] at hu3; obtain ⟨A3, c3, rfl, hv3⟩ := hu3.item_eq; have HV3 := Lib.hid hv3; have HP3 := Lib.hid hp3; have hb31 := below_then hB1 hB1.size hb3; have hk3 := blockB hb3 HB0.out; have HK3 := Lib.hid hk3; have HDN := Lib.hid (deque_new (w2 := w3) hb3 HP3.out HO.out (l := l.tail) HR.out.symm HLE.out); clear hu3 hp3 hv3 hk3)
      | (go_at_call 65; refine (own_calls x _ _ _ (HV3.out.keep (Keeps.alloc _))).mono ?_; rintro e w4 ⟨v4, rfl, hv4, hb4⟩; obtain ⟨_, A4, c4, rfl, _, _⟩ := hv4.eq; have hb43 : Below w3.heap.size w3 w4 := below_then (alloc_of (Below.refl _ _) _) (alloc_of (Below.refl _ _) _).size hb4; have hk4 := blockB hb43 HK3.out; obtain ⟨g0, g1, g2, g3⟩ := block4 hk4; have gz := free4 hk4; have hl4 := World.block_lt_of_cell? w4 _ g0; have HK4 := Lib.hid hk4; have HV4 := Lib.hid (hv4.keep (S' := fun b => w3.heap.size ≤ b) (Keeps.weak fun b hb => Nat.le_trans (by simp) hb)); have HD4 := Lib.hid (HDN.out.1.below hb4); clear hv4 hk4))
    obtain ⟨w5, hw5, hk5, hs5, hot5, hB5⟩ := store_box (w := w4) HK4.out (.int .i64 x.kind) (.int .i64 x.num) (.string x.text) (.slice A4 x.items.length c4)
    rw [hw5]
    obtain ⟨f0, f1, f2, f3⟩ := block4 hk5
    have hb5 := hb31.trans ((hb43.mono hb31.size).trans (hB5 _ (Nat.le_refl _)))
    have hs3 := hb3.size
    refine bodyPost_ret (v := .tuple #[.pointer (some ⟨w3.heap.size, 0, none⟩), .agg #[.int .i64 x.kind, .int .i64 x.num, .string x.text, .slice A4 x.items.length c4], .int .i64 0]) (by simp [results, Tryd.results24, go_sem, f0, f1, f2, f3]) rfl ⟨_, _, rfl, HV4.out.keep (fun b hb (h : w3.heap.size ≤ b) => ⟨show w.heap.size ≤ b by omega, hot5 b (by omega)⟩), .inr ⟨HN.out, _, rfl, ?_⟩, hb5⟩
    refine HD4.out.keep (fun b hb h => ?_)
    rcases h with ⟨⟨h6, h7⟩, _⟩ | h
    · exact ⟨.inl ⟨h6, h7⟩, hot5 b (by omega)⟩
    · exact ⟨.inr (by omega), hot5 b (by omega)⟩
set_option maxRecDepth 100000 in
set_option maxHeartbeats 8000000 in
theorem dpoplast_calls (l : List V) (p : Option Addr) (w : World) (S : Nat → Prop) (h : IsD w S l p) :
    Calls Tryd.prog 25 #[.pointer p] w fun e w' => ∃ p' vx, e = .returned (.tuple #[.pointer p', vx, .int .i64 (popE l)]) ∧ IsV w' (fun b => w.heap.size ≤ b) (popX l) vx ∧ ((l = [] ∧ p' = none) ∨ (l ≠ [] ∧ ∃ b, p' = some ⟨b, 0, none⟩ ∧ IsE w' (Old w S) (l.dropLast) b)) ∧ Below w.heap.size w w' := by
  obtain ⟨w1, hw1, hB1, hsz, hb0⟩ := box0 w 33 (.int .i64 0) (.int .i64 0) (.string ⟨#[]⟩) (.slice none 0 0)
  obtain ⟨e0, e1, e2, e3⟩ := block4 hb0
  have fz := free4 hb0
  have hl1 : w.heap.size < w1.heap.size := by omega
  have HLN := Lib.hid (len_calls l p w1 S (h.below hB1))
  by_cases h0 : l.length = 0
  · obtain rfl : l = [] := List.eq_nil_of_length_eq_zero h0
    simp only [List.length_nil] at HLN
    clear hb0 h
    go_enter Tryd.func25, Tryd.ntmps25
    go_wp2_with (go_at_call 33; refine HLN.out.mono ?_; rintro e w2 ⟨rfl, rfl⟩)
    refine bodyPost_ret (v := .tuple #[.pointer none, .agg #[.int .i64 0, .int .i64 0, .string ⟨#[]⟩, .slice none 0 0], .int .i64 6]) (by simp [results, Tryd.results25, go_sem, e0, e1, e2, e3]) rfl ⟨none, _, rfl, zero_is _ _, .inl ⟨by trivial, rfl⟩, ?_⟩
    repeat refine Below.setCell ?_ (by simp) _
    exact hB1
  · have hpe : popE l = 0 := by unfold popE; rw [if_neg h0]
    have hne : l ≠ [] := fun e => h0 (by rw [e]; rfl)
    have h2 : ((l.length : Int) == 0) = false := beq_eq_false_iff_ne.2 (by omega)
    obtain ⟨hl65, ⟨rfl, e⟩ | ⟨b, t, q, rfl, hs, c0, hf, ho, hi⟩⟩ := h
    · exact absurd e hne
    have hnn : t.isNil = false := by
      cases t with
      | nil => exact absurd hi.symm hne
      | mk => rfl
    obtain ⟨o1, o2, o3⟩ := last_ok ho hnn
    obtain ⟨x, hx⟩ := o1.zero
    have hix : l = t.last.2.items ++ [x] := by rw [← hi, o3, hx, pitem_items]
    have hpx : popX l = x := by rw [hix]; exact popX_end _ _
    have hrest : l.dropLast = t.last.2.items := by rw [hix]; simp
    have HFI := Lib.hid (last_calls t 0 q w1 (fun b => S b ∧ b < w.heap.size) (hf.keep (Keeps.below_to hB1 fun b h1 h2 => ⟨h2, h1⟩)) ho hnn (by rw [hi]; omega))
    have c1 := cellB hB1 c0
    have hbl := World.block_lt_of_cell? w1 _ c1
    have HB0 := Lib.hid hb0
    have HX := Lib.hid hx
    have HO := Lib.hid o2
    have HL := Lib.hid hl65
    have HR := Lib.hid hrest
    have HN := Lib.hid hne
    have hle : (l.dropLast).length ≤ 65536 := by have := congrArg List.length hix; simp at this ⊢; omega
    have HLE := Lib.hid hle
    rw [hpe, hpx]
    clear hf hs c0 hb0 hi o1 o2 o3 hx hix hpx hpe ho hl65 hrest hne h0 hnn hle
    go_enter Tryd.func25, Tryd.ntmps25
    go_wp2_with (first
      | (go_at_call 33; refine HLN.out.mono ?_; rintro e w2 ⟨rfl, rfl⟩)
      | (go_at_call 76; refine HFI.out.mono ?_; rintro e w3 ⟨u3, p3, rfl, hu3, hp3, hb3⟩; rw [HX.out] at hu3; obtain ⟨A3, c3, rfl, hv3⟩ := hu3.item_eq; have HV3 := Lib.hid hv3; have HP3 := Lib.hid hp3; have hb31 := below_then hB1 hB1.size hb3; have hk3 := blockB hb3 HB0.out; have HK3 := Lib.hid hk3; have HDN := Lib.hid (deque_new (w2 := w3) hb3 HP3.out HO.out (l := l.dropLast) HR.out.symm HLE.out); clear hu3 hp3 hv3 hk3)
      | (go_at_call 65; refine (own_calls x _ _ _ (HV3.out.keep (Keeps.alloc _))).mono ?_; rintro e w4 ⟨v4, rfl, hv4, hb4⟩; obtain ⟨_, A4, c4, rfl, _, _⟩ := hv4.eq; have hb43 : Below w3.heap.size w3 w4 := below_then (alloc_of (Below.refl _ _) _) (alloc_of (Below.refl _ _) _).size hb4; have hk4 := blockB hb43 HK3.out; obtain ⟨g0, g1, g2, g3⟩ := block4 hk4; have gz := free4 hk4; have hl4 := World.block_lt_of_cell? w4 _ g0; have HK4 := Lib.hid hk4; have HV4 := Lib.hid (hv4.keep (S' := fun b => w3.heap.size ≤ b) (Keeps.weak fun b hb => Nat.le_trans (by simp) hb)); have HD4 := Lib.hid (HDN.out.1.below hb4); clear hv4 hk4))
    obtain ⟨w5, hw5, hk5, hs5, hot5, hB5⟩ := store_box (w := w4) HK4.out (.int .i64 x.kind) (.int .i64 x.num) (.string x.text) (.slice A4 x.items.length c4)
    rw [hw5]
    obtain ⟨f0, f1, f2, f3⟩ := block4 hk5
    have hb5 := hb31.trans ((hb43.mono hb31.size).trans (hB5 _ (Nat.le_refl _)))
    have hs3 := hb3.size
    refine bodyPost_ret (v := .tuple #[.pointer (some ⟨w3.heap.size, 0, none⟩), .agg #[.int .i64 x.kind, .int .i64 x.num, .string x.text, .slice A4 x.items.length c4], .int .i64 0]) (by simp [results, Tryd.results25, go_sem, f0, f1, f2, f3]) rfl ⟨_, _, rfl, HV4.out.keep (fun b hb (h : w3.heap.size ≤ b) => ⟨show w.heap.size ≤ b by omega, hot5 b (by omega)⟩), .inr ⟨HN.out, _, rfl, ?_⟩, hb5⟩
    refine HD4.out.keep (fun b hb h => ?_)
    rcases h with ⟨⟨h6, h7⟩, _⟩ | h
    · exact ⟨.inl ⟨h6, h7⟩, hot5 b (by omega)⟩
    · exact ⟨.inr (by omega), hot5 b (by omega)⟩
end Go.Proofs.YtjjbhnkplbjfeaaDoor
