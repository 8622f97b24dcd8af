/- Deques: new ones, of a list; how many items; an item more. -/
import Derived.Test.YtjjbhnkplbjfeaaDoorCFnP
import Derived.Test.YtjjbhnkplbjfeaaDoorCValF

set_option linter.unusedVariables false
set_option linter.unusedSimpArgs false
namespace Go.Proofs.YtjjbhnkplbjfeaaDoor
open Go.RowKit
attribute [local go_sem] lt_succ_of methItem methNode asItem asNode isNode noNode fieldNode fieldItem notNil

/-- A deque that is one. -/
def IsE (w : World) (S : Nat → Prop) (l : List V) (b : Nat) : Prop := l.length ≤ 65536 ∧ ∃ t q, S b ∧ w.cell? ⟨b, 0, none⟩ = some (.pointer q) ∧ IsF w S t q ∧ Ft.Ok 0 t ∧ t.items = l
theorem IsE.is {w : World} {S : Nat → Prop} {l : List V} {b : Nat} (h : IsE w S l b) : IsD w S l (some ⟨b, 0, none⟩) := by
  obtain ⟨h0, t, q, hs, c, hf, ho, hi⟩ := h
  exact ⟨h0, .inr ⟨b, t, q, rfl, hs, c, hf, ho, hi⟩⟩
theorem IsE.keep {w w' : World} {S S' : Nat → Prop} (hk : Keeps w S w' S') {l : List V} {b : Nat} (h : IsE w S l b) : IsE w' S' l b := by
  obtain ⟨h0, t, q, hs, c, hf, ho, hi⟩ := h
  exact ⟨h0, t, q, (hk.cell (a := ⟨b, 0, none⟩) hs c).1, (hk.cell (a := ⟨b, 0, none⟩) hs c).2, hf.keep hk, ho, hi⟩
theorem IsE.below {w w' : World} {S : Nat → Prop} (hk : Below w.heap.size w w') {l : List V} {b : Nat} (h : IsE w S l b) : IsE w' S l b := h.keep (Keeps.below hk)
theorem block1 {w : World} {b : Nat} {c : Value} {t : TypeId} (h : w.heap[b]? = some (.cells #[c] t (0, 0))) : w.cell? ⟨b, 0, none⟩ = some c := by simp [World.cell?, h]
/-- A deque that has just been made. -/
theorem deque_new {w w2 : World} {S : Nat → Prop} (hb : Below w.heap.size w w2) {t : Ft} {q : Option Addr} {l : List V} (hf : IsF w2 (Old w S) t q) (ho : Ft.Ok 0 t) (hi : t.items = l) (hl : l.length ≤ 65536) :
    IsE (w2.alloc (.cells #[.pointer q] 99)) (Old w S) l w2.heap.size ∧ Below w.heap.size w (w2.alloc (.cells #[.pointer q] 99)) := by
  have hk := heap_alloc_new w2 (.cells #[.pointer q] 99)
  exact ⟨⟨hl, t, q, .inr hb.size, block1 hk, hf.keep (Keeps.alloc _), ho, hi⟩, hb.alloc hb.size _⟩
theorem new_calls (w : World) : Calls Tryd.prog 63 #[] w fun e w' => e = .returned (.pointer (some ⟨w.heap.size, 0, none⟩)) ∧ w'.heap[w.heap.size]? = some (.cells #[.pointer none] 99 (0, 0)) ∧ Below w.heap.size w w' := by
  obtain ⟨w1, hw1, h1, h3⟩ : ∃ w1, w.alloc (.cells #[.pointer none] 99) = w1 ∧ w1.heap[w.heap.size]? = some (.cells #[.pointer none] 99 (0, 0)) ∧ Below w.heap.size w w1 := ⟨_, rfl, heap_alloc_new w _, alloc_of (Below.refl _ _) _⟩
  have H1 := Lib.hid h1
  clear h1
  go_enter Tryd.func63, Tryd.ntmps63
  go_wp2_with fail
  go_ret
  exact ⟨rfl, H1.out, h3⟩
theorem len_calls (l : List V) (p : Option Addr) (w : World) (S : Nat → Prop) (h : IsD w S l p) : Calls Tryd.prog 33 #[.pointer p] w fun e w' => e = .returned (.int .i64 (l.length : Nat)) ∧ w = w' := by
  obtain ⟨t, q, hf, ho, hi, hT⟩ := top_calls l p w S h
  have HT := Lib.hid hT
  have hz := treesize_calls t q w S hf
  rw [hi] at hz
  have HZ := Lib.hid hz
  clear hf ho hi hT hz h
  go_enter Tryd.func33, Tryd.ntmps33
  go_wp2_with (first
    | (go_at_call 73; refine HT.out.mono ?_; rintro e w2 ⟨rfl, rfl⟩)
    | (go_at_call 79; refine HZ.out.mono ?_; rintro e w2 ⟨rfl, rfl⟩))
  go_ret
  exact ⟨rfl, rfl⟩
set_option maxRecDepth 100000 in
set_option maxHeartbeats 4000000 in
theorem room_calls (l : List V) (p : Option Addr) (x : V) (vx : Value) (w : World) (S : Nat → Prop) (h : IsD w S l p) (hx : IsV w S x vx) (hT : Lib.Utf8Tabs 1 2 w) :
    Calls Tryd.prog 72 #[.pointer p, vx] w fun e w' => e = .returned (.int .i64 (pushE l x)) ∧ Below w.heap.size w w' := by
  obtain ⟨hbx, Ax, cx, rfl, hcx, hAx⟩ := hx.eq
  obtain ⟨w1, hw1, hB1, hsz, hb0⟩ := box0 w 33 (.int .i64 x.kind) (.int .i64 x.num) (.string x.text) (.slice Ax x.items.length cx)
  obtain ⟨e0, e1, e2, e3⟩ := block4 hb0
  have hl1 : w.heap.size < w1.heap.size := by omega
  have HCK := Lib.hid (check_calls x _ w1 S (hx.below hB1) (tabs_below hT hB1))
  have HD := Lib.hid (h.below hB1)
  have hl65 := h.1
  clear hx hAx hb0 h hT
  by_cases hr : rightB x = true
  · rw [if_pos hr] at HCK
    have hE : pushE l x = if 65536 ≤ l.length then 2 else 0 := by unfold pushE; rw [if_pos hr]
    rw [hE]
    by_cases hle : 65536 ≤ l.length
    · rw [if_pos hle]
      have g1 : (65536 : Int) ≤ (l.length : Int) := by omega
      have g2 : decide ((l.length : Int) ≥ 65536) = true := by simpa using g1
      obtain ⟨n, hn⟩ : ∃ n : Int, (l.length : Int) = n := ⟨_, rfl⟩
      clear hE hr hle hl65
      go_enter Tryd.func72, Tryd.ntmps72
      go_wp2_with (first
        | (go_at_call 77; refine HCK.out.mono ?_; rintro e w2 ⟨rfl, hb2⟩; have HL := Lib.hid (len_calls l p w2 S (HD.out.below hb2)))
        | (go_at_call 33; refine HL.out.mono ?_; rintro e w3 ⟨rfl, rfl⟩))
      go_ret
      exact ⟨rfl, below_then hB1 hB1.size hb2⟩
    · rw [if_neg hle]
      have g1 : ¬ (65536 : Int) ≤ (l.length : Int) := by omega
      have g2 : decide ((l.length : Int) ≥ 65536) = false := by simpa using g1
      clear hE hr hle hl65
      go_enter Tryd.func72, Tryd.ntmps72
      go_wp2_with (first
        | (go_at_call 77; refine HCK.out.mono ?_; rintro e w2 ⟨rfl, hb2⟩; have HL := Lib.hid (len_calls l p w2 S (HD.out.below hb2)))
        | (go_at_call 33; refine HL.out.mono ?_; rintro e w3 ⟨rfl, rfl⟩))
      go_ret
      exact ⟨rfl, below_then hB1 hB1.size hb2⟩
  · rw [if_neg hr] at HCK
    have hE : pushE l x = 3 := by unfold pushE; rw [if_neg hr]
    rw [hE]
    clear hE hr
    go_enter Tryd.func72, Tryd.ntmps72
    go_wp2_with (first
      | (go_at_call 77; refine HCK.out.mono ?_; rintro e w2 ⟨rfl, hb2⟩))
    go_ret
    exact ⟨rfl, below_then hB1 hB1.size hb2⟩
end Go.Proofs.YtjjbhnkplbjfeaaDoor
