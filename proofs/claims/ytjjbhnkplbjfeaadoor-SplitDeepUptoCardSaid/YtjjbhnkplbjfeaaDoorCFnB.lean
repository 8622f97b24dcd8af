/- Parts and trees of a deque as data: what the code makes of them. Parts and trees of a deque in memory. -/
import Derived.Test.YtjjbhnkplbjfeaaDoorCBase
/- Parts and trees of a deque as data: what the code makes of them. -/
set_option linter.unusedVariables false
set_option linter.unusedSimpArgs false
namespace Go.Proofs.YtjjbhnkplbjfeaaDoor
open Go.RowKit

/-- A part: an item, or a node of parts. -/
inductive Pt where
  | item (x : V)
  | node (ks : List Pt)
mutual
def Pt.items : Pt → List V
  | .item x => [x]
  | .node ks => Pt.flat ks
def Pt.flat : List Pt → List V
  | [] => []
  | k :: ks => Pt.items k ++ Pt.flat ks
end
instance : Inhabited Pt := ⟨.item V.zero⟩
def Pt.parts : Pt → List Pt
  | .item _ => []
  | .node ks => ks
def ptAt (ks : List Pt) (i : Nat) : Pt := ks.getD i default
theorem ptAt_get {l : List Pt} {i : Nat} (h : i < l.length) : l[i]? = some (ptAt l i) := by
  simp [ptAt, List.getD_eq_getElem?_getD, List.getElem?_eq_getElem h]
theorem ptAt_mem {l : List Pt} {i : Nat} (h : i < l.length) : ptAt l i ∈ l := List.mem_of_getElem? (ptAt_get h)
theorem ptAt_drop {l : List Pt} {i : Nat} (h : i < l.length) : l.drop i = ptAt l i :: l.drop (i + 1) := by
  rw [List.drop_eq_getElem_cons h]
  congr 1
  have := ptAt_get h
  rw [List.getElem?_eq_getElem h] at this
  exact Option.some.inj this
theorem ptAt_take {l : List Pt} {i : Nat} (h : i < l.length) : l.take (i + 1) = l.take i ++ [ptAt l i] := by
  rw [List.take_succ_eq_append_getElem h]
  congr 2
  have := ptAt_get h
  rw [List.getElem?_eq_getElem h] at this
  exact Option.some.inj this
theorem pflat_append : ∀ (a b : List Pt), Pt.flat (a ++ b) = Pt.flat a ++ Pt.flat b
  | [], b => by simp [Pt.flat]
  | k :: a, b => by simp [Pt.flat, pflat_append a b]
theorem pflat_one (k : Pt) : Pt.flat [k] = Pt.items k := by simp [Pt.flat]
theorem pflat_cons (k : Pt) (ks : List Pt) : Pt.flat (k :: ks) = Pt.items k ++ Pt.flat ks := by simp [Pt.flat]
theorem pflat_nil : Pt.flat [] = [] := by simp [Pt.flat]
theorem pnode_items (ks : List Pt) : Pt.items (.node ks) = Pt.flat ks := by simp [Pt.items]
theorem pitem_items (x : V) : Pt.items (.item x) = [x] := by simp [Pt.items]
/-- How many items are in the first i parts. -/
def aheadP (ks : List Pt) (i : Nat) : Nat := (Pt.flat (ks.take i)).length
theorem aheadP_zero (ks : List Pt) : aheadP ks 0 = 0 := by simp [aheadP, Pt.flat]
theorem aheadP_succ {ks : List Pt} {i : Nat} (h : i < ks.length) : aheadP ks (i + 1) = aheadP ks i + (Pt.items (ptAt ks i)).length := by
  unfold aheadP
  rw [ptAt_take h, pflat_append, pflat_one, List.length_append]
theorem aheadP_all (ks : List Pt) : aheadP ks ks.length = (Pt.flat ks).length := by unfold aheadP; rw [List.take_length]
theorem aheadP_le (ks : List Pt) (i : Nat) : aheadP ks i ≤ (Pt.flat ks).length := by
  unfold aheadP
  conv => rhs; rw [← List.take_append_drop i ks, pflat_append, List.length_append]
  omega
/-- A part of a level: an item, or a node of three parts of the level below. -/
def Pt.Lev : Nat → Pt → Prop
  | 0, .item _ => True
  | k + 1, .node ks => ks.length = 3 ∧ ∀ p, p ∈ ks → Pt.Lev k p
  | _, _ => False
theorem Pt.Lev.zero {p : Pt} (h : Pt.Lev 0 p) : ∃ x, p = .item x := by
  cases p with
  | item x => exact ⟨x, rfl⟩
  | node ks => exact h.elim
theorem Pt.Lev.succ {k : Nat} {p : Pt} (h : Pt.Lev (k + 1) p) : ∃ ks, p = .node ks ∧ ks.length = 3 ∧ ∀ p, p ∈ ks → Pt.Lev k p := by
  cases p with
  | item x => exact h.elim
  | node ks => exact ⟨ks, rfl, h.1, h.2⟩
theorem plev_length {c : Nat} : ∀ {ks : List Pt}, (∀ k, k ∈ ks → (Pt.items k).length = c) → (Pt.flat ks).length = ks.length * c
  | [], _ => by simp [Pt.flat]
  | k :: ks, h => by
    rw [Pt.flat, List.length_append, h k (by simp), plev_length fun x hx => h x (List.mem_cons_of_mem _ hx), List.length_cons, Nat.succ_mul]
    omega
theorem Pt.Lev.length : ∀ {k : Nat} {p : Pt}, Pt.Lev k p → (Pt.items p).length = 3 ^ k
  | 0, p, h => by
    obtain ⟨x, rfl⟩ := h.zero
    simp [Pt.items]
  | k + 1, p, h => by
    obtain ⟨ks, rfl, hl, hk⟩ := h.succ
    rw [Pt.items, plev_length fun x hx => Pt.Lev.length (hk x hx), hl, Nat.pow_succ, Nat.mul_comm]

/-- A tree: empty, or fingers at both ends and a tree within. -/
inductive Ft where
  | nil
  | mk (l : List Pt) (m : Ft) (r : List Pt)
def Ft.items : Ft → List V
  | .nil => []
  | .mk l m r => Pt.flat l ++ (m.items ++ Pt.flat r)
def Ft.isNil : Ft → Bool
  | .nil => true
  | .mk _ _ _ => false
def Ft.height : Ft → Nat
  | .nil => 0
  | .mk _ m _ => m.height + 1
/-- A tree whose fingers' parts are of a level. -/
def Ft.Ok : Nat → Ft → Prop
  | _, .nil => True
  | k, .mk l m r => (∀ p, p ∈ l → Pt.Lev k p) ∧ (∀ p, p ∈ r → Pt.Lev k p) ∧ 0 < l.length ∧ l.length ≤ 4 ∧ r.length ≤ 4 ∧ Ft.Ok (k + 1) m ∧ (r.length = 0 → l.length = 1 ∧ m = .nil)
def Ft.front : Ft → Pt → Ft
  | .nil, x => .mk [x] .nil []
  | .mk l m r, x => if r.length = 0 then .mk [x] .nil l else if l.length < 4 then .mk (x :: l) m r else .mk [x, ptAt l 0] (m.front (.node (l.drop 1))) r
def Ft.back : Ft → Pt → Ft
  | .nil, x => .mk [x] .nil []
  | .mk l m r, x => if r.length = 0 then .mk l .nil [x] else if r.length < 4 then .mk l m (r ++ [x]) else .mk l (m.back (.node (r.take 3))) [ptAt r 3, x]
def Ft.few (l : List Pt) : Ft := l.foldl Ft.back .nil
def Ft.first : Ft → Pt × Ft
  | .nil => (default, .nil)
  | .mk l m r => (ptAt l 0, if r.length = 0 then .nil else if 1 < l.length then .mk (l.drop 1) m r else if m.isNil then Ft.few r else .mk m.first.1.parts m.first.2 r)
def Ft.last : Ft → Pt × Ft
  | .nil => (default, .nil)
  | .mk l m r => if r.length = 0 then (ptAt l 0, .nil) else (ptAt r (r.length - 1), if 1 < r.length then .mk l m (r.take (r.length - 1)) else if m.isNil then Ft.few l else .mk l m.last.2 m.last.1.parts)
mutual
def Pt.change : Pt → Nat → V → Pt
  | .item _, _, y => .item y
  | .node ks, i, y => .node (Pt.changed ks i y)
def Pt.changed : List Pt → Nat → V → List Pt
  | [], _, _ => []
  | k :: ks, i, y => if i < k.items.length then k.change i y :: ks else k :: Pt.changed ks (i - k.items.length) y
end
def Ft.change : Ft → Nat → V → Ft
  | .nil, _, _ => .nil
  | .mk l m r, i, y => if i < (Pt.flat l).length then .mk (Pt.changed l i y) m r else if i - (Pt.flat l).length < m.items.length then .mk l (m.change (i - (Pt.flat l).length) y) r
    else .mk l m (Pt.changed r (i - (Pt.flat l).length - m.items.length) y)

theorem three {l : List Pt} (h : l.length = 4) : l = [ptAt l 0, ptAt l 1, ptAt l 2, ptAt l 3] := by
  match l, h with
  | [a, b, c, d], _ => rfl
theorem one_of {l : List Pt} (h : l.length = 1) : l = [ptAt l 0] := by
  match l, h with
  | [a], _ => rfl
theorem front_ok : ∀ {t : Ft} {k : Nat} {x : Pt}, Ft.Ok k t → Pt.Lev k x → Ft.Ok k (t.front x) ∧ (t.front x).items = x.items ++ t.items
  | .nil, k, x, _, hx => by
    simp [Ft.front, Ft.Ok, Ft.items, hx, Pt.flat]
  | .mk l m r, k, x, h, hx => by
    obtain ⟨h1, h2, h3, h4, h5, h6, h7⟩ := h
    unfold Ft.front
    by_cases hr : r.length = 0
    · rw [if_pos hr]
      obtain ⟨h8, rfl⟩ := h7 hr
      obtain rfl := List.eq_nil_of_length_eq_zero hr
      simp only [Ft.Ok, Ft.items, pflat_one, pflat_nil, List.nil_append, List.append_nil]
      refine ⟨⟨by simpa using hx, h1, by simp, by simp, h4, trivial, fun e => by omega⟩, trivial⟩
    · rw [if_neg hr]
      by_cases hl : l.length < 4
      · rw [if_pos hl]
        simp only [Ft.Ok, Ft.items, pflat_cons, List.append_assoc]
        refine ⟨⟨fun p hp => ?_, h2, by simp, by simp; omega, h5, h6, fun e => absurd e hr⟩, trivial⟩
        rcases List.mem_cons.1 hp with rfl | hp
        · exact hx
        · exact h1 p hp
      · rw [if_neg hl]
        have hl4 : l.length = 4 := by omega
        have hm : ∀ p, p ∈ l.drop 1 → Pt.Lev k p := fun p hp => h1 p (List.drop_subset _ _ hp)
        obtain ⟨i1, i2⟩ := front_ok (t := m) (k := k + 1) (x := .node (l.drop 1)) h6 ⟨by rw [List.length_drop]; omega, hm⟩
        have h0 := ptAt_drop (l := l) (i := 0) (by omega)
        simp only [List.drop_zero, Nat.zero_add] at h0
        refine ⟨⟨fun p hp => ?_, h2, by simp, by simp, h5, i1, fun e => absurd e hr⟩, ?_⟩
        · simp only [List.mem_cons, List.not_mem_nil, or_false] at hp
          rcases hp with rfl | rfl
          · exact hx
          · exact h1 _ (ptAt_mem (by omega))
        · simp only [Ft.items, i2, pnode_items]
          conv => rhs; rw [h0]
          simp only [pflat_cons, pflat_nil, List.append_assoc, List.append_nil, List.nil_append]
theorem back_ok : ∀ {t : Ft} {k : Nat} {x : Pt}, Ft.Ok k t → Pt.Lev k x → Ft.Ok k (t.back x) ∧ (t.back x).items = t.items ++ x.items
  | .nil, k, x, _, hx => by
    simp [Ft.back, Ft.Ok, Ft.items, hx, Pt.flat]
  | .mk l m r, k, x, h, hx => by
    obtain ⟨h1, h2, h3, h4, h5, h6, h7⟩ := h
    unfold Ft.back
    by_cases hr : r.length = 0
    · rw [if_pos hr]
      obtain ⟨h8, rfl⟩ := h7 hr
      obtain rfl := List.eq_nil_of_length_eq_zero hr
      simp only [Ft.Ok, Ft.items, pflat_one, pflat_nil, List.nil_append, List.append_nil]
      refine ⟨⟨h1, by simpa using hx, h3, h4, by simp, trivial, fun e => by simp at e⟩, trivial⟩
    · rw [if_neg hr]
      by_cases hl : r.length < 4
      · rw [if_pos hl]
        simp only [Ft.Ok, Ft.items, pflat_append, pflat_one, List.append_assoc]
        refine ⟨⟨h1, fun p hp => ?_, h3, h4, by simp; omega, h6, fun e => by simp at e⟩, trivial⟩
        rcases List.mem_append.1 hp with hp | hp
        · exact h2 p hp
        · rw [List.mem_singleton.1 hp]; exact hx
      · rw [if_neg hl]
        have hl4 : r.length = 4 := by omega
        have hm : ∀ p, p ∈ r.take 3 → Pt.Lev k p := fun p hp => h2 p (List.take_subset _ _ hp)
        obtain ⟨i1, i2⟩ := back_ok (t := m) (k := k + 1) (x := .node (r.take 3)) h6 ⟨by rw [List.length_take]; omega, hm⟩
        have h0 : r = r.take 3 ++ [ptAt r 3] := by
          rw [← ptAt_take (by omega), List.take_of_length_le (by omega)]
        refine ⟨⟨h1, fun p hp => ?_, h3, h4, by simp, i1, fun e => by simp at e⟩, ?_⟩
        · simp only [List.mem_cons, List.not_mem_nil, or_false] at hp
          rcases hp with rfl | rfl
          · exact h2 _ (ptAt_mem (by omega))
          · exact hx
        · simp only [Ft.items, i2, pnode_items]
          conv => rhs; rw [h0]
          simp only [pflat_cons, pflat_nil, pflat_append, List.append_assoc, List.append_nil, List.nil_append]
theorem foldl_ok : ∀ {l : List Pt} {t : Ft} {k : Nat}, Ft.Ok k t → (∀ p, p ∈ l → Pt.Lev k p) → Ft.Ok k (l.foldl Ft.back t) ∧ (l.foldl Ft.back t).items = t.items ++ Pt.flat l
  | [], t, k, h, _ => ⟨h, by simp [Pt.flat]⟩
  | x :: l, t, k, h, hl => by
    obtain ⟨h1, h2⟩ := back_ok h (hl x (by simp))
    obtain ⟨h3, h4⟩ := foldl_ok (l := l) h1 fun p hp => hl p (List.mem_cons_of_mem _ hp)
    refine ⟨h3, ?_⟩
    rw [List.foldl_cons, h4, h2, pflat_cons, List.append_assoc]
theorem few_ok {l : List Pt} {k : Nat} (hl : ∀ p, p ∈ l → Pt.Lev k p) : Ft.Ok k (Ft.few l) ∧ (Ft.few l).items = Pt.flat l := by
  obtain ⟨h1, h2⟩ := foldl_ok (l := l) (t := .nil) (k := k) trivial hl
  exact ⟨h1, by unfold Ft.few; rw [h2]; rfl⟩
theorem isNil_nil {m : Ft} (h : m.isNil = true) : m = .nil := by cases m with | nil => rfl | mk l m r => cases h
theorem first_ok : ∀ {t : Ft} {k : Nat}, Ft.Ok k t → t.isNil = false → Pt.Lev k t.first.1 ∧ Ft.Ok k t.first.2 ∧ t.items = t.first.1.items ++ t.first.2.items
  | .nil, _, _, h => by cases h
  | .mk l m r, k, h, _ => by
    obtain ⟨h1, h2, h3, h4, h5, h6, h7⟩ := h
    have h0 := ptAt_drop (l := l) (i := 0) (by omega)
    simp only [List.drop_zero, Nat.zero_add] at h0
    refine ⟨h1 _ (ptAt_mem h3), ?_⟩
    unfold Ft.first
    by_cases hr : r.length = 0
    · simp only [if_pos hr]
      obtain ⟨h8, rfl⟩ := h7 hr
      obtain rfl := List.eq_nil_of_length_eq_zero hr
      refine ⟨trivial, ?_⟩
      rw [Ft.items, one_of h8]
      simp [Ft.items, Pt.flat, ptAt]
    · simp only [if_neg hr]
      by_cases hl : 1 < l.length
      · simp only [if_pos hl]
        refine ⟨⟨fun p hp => h1 p (List.drop_subset _ _ hp), h2, by rw [List.length_drop]; omega, by rw [List.length_drop]; omega, h5, h6, fun e => absurd e hr⟩, ?_⟩
        simp only [Ft.items]
        conv => lhs; rw [h0]
        rw [pflat_cons, List.append_assoc]
      · simp only [if_neg hl]
        have hl1 : l.length = 1 := by omega
        cases hm : m.isNil with
        | true =>
          simp only [if_true]
          obtain rfl := isNil_nil hm
          obtain ⟨i1, i2⟩ := few_ok h2
          refine ⟨i1, ?_⟩
          rw [i2, Ft.items]
          conv => lhs; rw [one_of hl1]
          simp [Ft.items, Pt.flat]
        | false =>
          obtain ⟨i1, i2, i3⟩ := first_ok h6 hm
          obtain ⟨ks, e, e3, ek⟩ := i1.succ
          simp only [Bool.false_eq_true, if_false]
          rw [e]
          refine ⟨⟨ek, h2, by simp only [Pt.parts]; omega, by simp only [Pt.parts]; omega, h5, i2, fun e => absurd e hr⟩, ?_⟩
          rw [e] at i3
          simp only [Ft.items, i3, pnode_items, Pt.parts]
          conv => lhs; rw [one_of hl1]
          rw [pflat_one]
          simp only [List.append_assoc]
theorem last_ok : ∀ {t : Ft} {k : Nat}, Ft.Ok k t → t.isNil = false → Pt.Lev k t.last.1 ∧ Ft.Ok k t.last.2 ∧ t.items = t.last.2.items ++ t.last.1.items
  | .nil, _, _, h => by cases h
  | .mk l m r, k, h, _ => by
    obtain ⟨h1, h2, h3, h4, h5, h6, h7⟩ := h
    unfold Ft.last
    by_cases hr : r.length = 0
    · simp only [if_pos hr]
      obtain ⟨h8, rfl⟩ := h7 hr
      obtain rfl := List.eq_nil_of_length_eq_zero hr
      refine ⟨h1 _ (ptAt_mem h3), trivial, ?_⟩
      rw [Ft.items, one_of h8]
      simp [Ft.items, Pt.flat, ptAt]
    · simp only [if_neg hr]
      have h0 : r = r.take (r.length - 1) ++ [ptAt r (r.length - 1)] := by
        rw [← ptAt_take (by omega), List.take_of_length_le (by omega)]
      refine ⟨h2 _ (ptAt_mem (by omega)), ?_⟩
      by_cases hl : 1 < r.length
      · simp only [if_pos hl]
        refine ⟨⟨h1, fun p hp => h2 p (List.take_subset _ _ hp), h3, h4, by rw [List.length_take]; omega, h6, fun e => by rw [List.length_take] at e; omega⟩, ?_⟩
        simp only [Ft.items]
        conv => lhs; rw [h0]
        rw [pflat_append, pflat_one]
        simp only [List.append_assoc]
      · simp only [if_neg hl]
        have hl1 : r.length = 1 := by omega
        cases hm : m.isNil with
        | true =>
          simp only [if_true]
          obtain rfl := isNil_nil hm
          obtain ⟨i1, i2⟩ := few_ok h1
          refine ⟨i1, ?_⟩
          rw [i2, Ft.items, hl1]
          conv => lhs; rw [one_of hl1]
          simp [Ft.items, Pt.flat]
        | false =>
          obtain ⟨i1, i2, i3⟩ := last_ok h6 hm
          obtain ⟨ks, e, e3, ek⟩ := i1.succ
          simp only [Bool.false_eq_true, if_false]
          rw [e]
          refine ⟨⟨h1, ek, h3, h4, by simp only [Pt.parts]; omega, i2, fun e => by simp only [Pt.parts] at e; omega⟩, ?_⟩
          rw [e] at i3
          simp only [Ft.items, i3, pnode_items, Pt.parts, hl1]
          conv => lhs; rw [one_of hl1]
          rw [pflat_one]
          simp only [List.append_assoc]
mutual
theorem change_ok : ∀ {p : Pt} {k i : Nat} {y : V}, Pt.Lev k p → i < p.items.length → Pt.Lev k (p.change i y) ∧ (p.change i y).items = p.items.set i y
  | .item x, 0, i, y, _, hi => by
    rw [pitem_items] at hi
    obtain rfl : i = 0 := by simpa using hi
    simp [Pt.change, Pt.Lev, Pt.items]
  | .item x, k + 1, i, y, h, _ => h.elim
  | .node ks, 0, i, y, h, _ => h.elim
  | .node ks, k + 1, i, y, h, hi => by
    obtain ⟨h1, h2⟩ := h
    rw [pnode_items] at hi
    obtain ⟨i1, i2, i3⟩ := changed_ok (ks := ks) (k := k) (i := i) (y := y) h2 hi
    rw [Pt.change]
    exact ⟨⟨by rw [i1, h1], i2⟩, by rw [pnode_items, pnode_items, i3]⟩
theorem changed_ok : ∀ {ks : List Pt} {k i : Nat} {y : V}, (∀ p, p ∈ ks → Pt.Lev k p) → i < (Pt.flat ks).length → (Pt.changed ks i y).length = ks.length ∧ (∀ p, p ∈ Pt.changed ks i y → Pt.Lev k p) ∧ Pt.flat (Pt.changed ks i y) = (Pt.flat ks).set i y
  | [], k, i, y, _, hi => by simp [Pt.flat] at hi
  | p :: ks, k, i, y, h, hi => by
    rw [Pt.changed]
    by_cases hlt : i < p.items.length
    · rw [if_pos hlt]
      obtain ⟨i1, i2⟩ := change_ok (p := p) (k := k) (i := i) (y := y) (h p (by simp)) hlt
      refine ⟨by simp, fun q hq => ?_, ?_⟩
      · rcases List.mem_cons.1 hq with rfl | hq
        · exact i1
        · exact h q (List.mem_cons_of_mem _ hq)
      · rw [pflat_cons, pflat_cons, i2, List.set_append, if_pos hlt]
    · rw [if_neg hlt]
      rw [pflat_cons, List.length_append] at hi
      obtain ⟨i1, i2, i3⟩ := changed_ok (ks := ks) (k := k) (i := i - p.items.length) (y := y) (fun q hq => h q (List.mem_cons_of_mem _ hq)) (by omega)
      refine ⟨by simp [i1], fun q hq => ?_, ?_⟩
      · rcases List.mem_cons.1 hq with rfl | hq
        · exact h q (by simp)
        · exact i2 q hq
      · rw [pflat_cons, pflat_cons, i3, List.set_append, if_neg hlt]
end
theorem fchange_ok : ∀ {t : Ft} {k i : Nat} {y : V}, Ft.Ok k t → i < t.items.length → Ft.Ok k (t.change i y) ∧ (t.change i y).items = t.items.set i y
  | .nil, k, i, y, _, hi => by simp [Ft.items] at hi
  | .mk l m r, k, i, y, h, hi => by
    obtain ⟨h1, h2, h3, h4, h5, h6, h7⟩ := h
    simp only [Ft.items, List.length_append] at hi
    unfold Ft.change
    by_cases hl : i < (Pt.flat l).length
    · rw [if_pos hl]
      obtain ⟨i1, i2, i3⟩ := changed_ok (y := y) h1 hl
      refine ⟨⟨i2, h2, by omega, by omega, h5, h6, fun e => by rw [i1]; exact h7 e⟩, ?_⟩
      rw [Ft.items, Ft.items, i3, List.set_append, if_pos hl]
    · rw [if_neg hl]
      by_cases hm : i - (Pt.flat l).length < m.items.length
      · rw [if_pos hm]
        obtain ⟨i1, i2⟩ := fchange_ok (y := y) h6 hm
        refine ⟨⟨h1, h2, h3, h4, h5, i1, fun e => ?_⟩, ?_⟩
        · obtain ⟨_, rfl⟩ := h7 e
          simp [Ft.items] at hm
        · rw [Ft.items, Ft.items, i2, List.set_append, if_neg hl, List.set_append, if_pos hm]
      · rw [if_neg hm]
        obtain ⟨i1, i2, i3⟩ := changed_ok (i := i - (Pt.flat l).length - m.items.length) (y := y) h2 (by omega)
        refine ⟨⟨h1, i2, h3, h4, by omega, h6, fun e => h7 (by omega)⟩, ?_⟩
        rw [Ft.items, Ft.items, i3, List.set_append, if_neg hl, List.set_append, if_neg hm]
/-- A tree is flat. -/
theorem height_le : ∀ {t : Ft} {k : Nat}, Ft.Ok k t → t.isNil = false → 3 ^ (k + t.height - 1) ≤ t.items.length
  | .nil, _, _, h => by cases h
  | .mk l m r, k, h, _ => by
    obtain ⟨h1, h2, h3, h4, h5, h6, h7⟩ := h
    simp only [Ft.items, List.length_append, Ft.height]
    cases hm : m.isNil with
    | true =>
      obtain rfl := isNil_nil hm
      have := plev_length fun p hp => (h1 p hp).length
      simp only [Ft.height]
      rw [this, show k + (0 + 1) - 1 = k by omega]
      have := Nat.le_mul_of_pos_left (3 ^ k) h3
      omega
    | false =>
      have := height_le h6 hm
      rw [show k + (m.height + 1) - 1 = k + 1 + m.height - 1 by omega]
      omega
theorem height_nil {t : Ft} : t.height = 0 ↔ t.isNil = true := by cases t <;> simp [Ft.height, Ft.isNil]
theorem items_pos {t : Ft} {k : Nat} (h : Ft.Ok k t) (hn : t.isNil = false) : 0 < t.items.length := Nat.lt_of_lt_of_le (Nat.pos_of_ne_zero (by simp)) (height_le h hn)
end Go.Proofs.YtjjbhnkplbjfeaaDoor

/- Parts and trees of a deque in memory. -/
set_option linter.unusedVariables false
set_option linter.unusedSimpArgs false
namespace Go.Proofs.YtjjbhnkplbjfeaaDoor
open Go.RowKit

mutual
/-- A part as an interface's value. -/
def IsP (w : World) (S : Nat → Prop) : Pt → Value → Prop
  | .item x, v => ∃ c, VC w S x c ∧ v = .iface 103 (.agg c.toArray)
  | .node ks, v => ∃ ad cap, v = .iface 137 (.agg #[.int .i64 ((Pt.flat ks).length : Nat), .slice (some ad) ks.length cap]) ∧ ks.length ≤ cap ∧ PC w S ks ad 0
/-- Parts one behind the other from cell n on. -/
def PC (w : World) (S : Nat → Prop) : List Pt → Addr → Nat → Prop
  | [], _, _ => True
  | k :: ks, ad, n => S ad.block ∧ (∃ u, IsP w S k u ∧ w.cell? (ad.add n) = some u) ∧ PC w S ks ad (n + 1)
end
theorem IsP.item_eq {w : World} {S : Nat → Prop} {x : V} {v : Value} (h : IsP w S (.item x) v) : ∃ A cap, v = .iface 103 (.agg #[.int .i64 x.kind, .int .i64 x.num, .string x.text, .slice A x.items.length cap]) ∧ IsV w S x (.agg #[.int .i64 x.kind, .int .i64 x.num, .string x.text, .slice A x.items.length cap]) := by
  simp only [IsP] at h
  obtain ⟨c, h1, rfl⟩ := h
  obtain ⟨hb, A, cap, rfl, h2, h3⟩ := h1.eq
  exact ⟨A, cap, rfl, IsV.mk hb h2 h3⟩
theorem IsP.item_mk {w : World} {S : Nat → Prop} {x : V} {v : Value} (h : IsV w S x v) : IsP w S (.item x) (.iface 103 v) := by
  simp only [IsP]
  obtain ⟨c, h1, rfl⟩ := h
  exact ⟨c, h1, rfl⟩
theorem IsP.node_eq {w : World} {S : Nat → Prop} {ks : List Pt} {v : Value} (h : IsP w S (.node ks) v) : ∃ ad cap, v = .iface 137 (.agg #[.int .i64 ((Pt.flat ks).length : Nat), .slice (some ad) ks.length cap]) ∧ ks.length ≤ cap ∧ PC w S ks ad 0 := by simpa only [IsP] using h
theorem IsP.node_mk {w : World} {S : Nat → Prop} {ks : List Pt} {ad : Addr} {cap : Nat} (h1 : ks.length ≤ cap) (h2 : PC w S ks ad 0) : IsP w S (.node ks) (.iface 137 (.agg #[.int .i64 ((Pt.flat ks).length : Nat), .slice (some ad) ks.length cap])) := by
  simp only [IsP]
  exact ⟨ad, cap, rfl, h1, h2⟩
mutual
theorem IsP.keep {w w' : World} {S S' : Nat → Prop} (hk : Keeps w S w' S') : ∀ {k : Pt} {v : Value}, IsP w S k v → IsP w' S' k v
  | .item x, v, h => by
    obtain ⟨A, cap, rfl, h1⟩ := h.item_eq
    exact IsP.item_mk (h1.keep hk)
  | .node ks, v, h => by
    obtain ⟨ad, cap, rfl, h1, h2⟩ := h.node_eq
    exact IsP.node_mk h1 (PC.keep hk h2)
theorem PC.keep {w w' : World} {S S' : Nat → Prop} (hk : Keeps w S w' S') : ∀ {ks : List Pt} {ad : Addr} {n : Nat}, PC w S ks ad n → PC w' S' ks ad n
  | [], _, _, _ => by simp only [PC]
  | k :: ks, ad, n, h => by
    simp only [PC] at h ⊢
    obtain ⟨h1, ⟨u, h2, h3⟩, h4⟩ := h
    have hc := hk.cell (a := ad.add n) (by rw [addr_add_block]; exact h1) h3
    refine ⟨by rw [addr_add_block] at hc; exact hc.1, ⟨u, IsP.keep hk h2, hc.2⟩, PC.keep hk h4⟩
end
theorem IsP.below {w w' : World} {S : Nat → Prop} (hk : Below w.heap.size w w') {k : Pt} {v : Value} (h : IsP w S k v) : IsP w' S k v := h.keep (Keeps.below hk)
theorem IsP.form {w : World} {S : Nat → Prop} {k : Pt} {v : Value} (h : IsP w S k v) : ∃ t x, v = .iface t x := by
  cases k with
  | item x => obtain ⟨A, cap, rfl, _⟩ := h.item_eq; exact ⟨_, _, rfl⟩
  | node ks => obtain ⟨ad, cap, rfl, _⟩ := h.node_eq; exact ⟨_, _, rfl⟩
theorem IsP.one {w : World} {S : Nat → Prop} {k : Pt} {u : Value} (h : IsP w S k u) : u.oneCell' = true := by
  obtain ⟨t, x, rfl⟩ := h.form
  rfl
theorem PC.at {w : World} {S : Nat → Prop} : ∀ {ks : List Pt} {ad : Addr} {n : Nat}, PC w S ks ad n → ∀ i, i < ks.length → S ad.block ∧ ∃ u, IsP w S (ptAt ks i) u ∧ w.cell? (ad.add (n + i)) = some u
  | [], _, _, _, i, hi => by simp at hi
  | k :: ks, ad, n, h, i, hi => by
    simp only [PC] at h
    obtain ⟨h1, ⟨u, h2, h3⟩, h4⟩ := h
    cases i with
    | zero => exact ⟨h1, u, h2, h3⟩
    | succ i =>
      obtain ⟨h5, u', h6, h7⟩ := PC.at h4 i (by simpa using hi)
      exact ⟨h5, u', h6, by rwa [show n + (i + 1) = n + 1 + i by omega]⟩
/-- Cells that stand for parts. -/
def CsP (w : World) (S : Nat → Prop) : List Pt → List Value → Prop
  | [], c => c = []
  | k :: ks, c => ∃ u b, c = u :: b ∧ IsP w S k u ∧ CsP w S ks b
theorem CsP.keep {w w' : World} {S S' : Nat → Prop} (hk : Keeps w S w' S') : ∀ {l : List Pt} {c : List Value}, CsP w S l c → CsP w' S' l c
  | [], _, h => h
  | x :: xs, c, ⟨a, b, e, h1, h2⟩ => ⟨a, b, e, h1.keep hk, CsP.keep hk h2⟩
theorem CsP.length {w : World} {S : Nat → Prop} : ∀ {l : List Pt} {c : List Value}, CsP w S l c → c.length = l.length
  | [], _, h => by cases h; rfl
  | x :: xs, c, ⟨a, b, e, h1, h2⟩ => by rw [e, List.length_cons, CsP.length h2, List.length_cons]
theorem CsP.append {w : World} {S : Nat → Prop} {m : List Pt} {d : List Value} : ∀ {l : List Pt} {c : List Value}, CsP w S l c → CsP w S m d → CsP w S (l ++ m) (c ++ d)
  | [], _, h, hx => by cases h; exact hx
  | y :: ys, c, ⟨a, b, e, h1, h2⟩, hx => ⟨a, b ++ d, by rw [e, List.cons_append], h1, CsP.append h2 hx⟩
theorem CsP.take {w : World} {S : Nat → Prop} : ∀ {l : List Pt} {c : List Value} (n : Nat), CsP w S l c → CsP w S (l.take n) (c.take n)
  | [], _, n, h => by cases h; simp [CsP]
  | y :: ys, c, 0, ⟨a, b, e, h1, h2⟩ => by simp [CsP]
  | y :: ys, c, n + 1, ⟨a, b, e, h1, h2⟩ => by subst e; exact ⟨a, b.take n, by simp, h1, CsP.take n h2⟩
theorem CsP.set {w : World} {S : Nat → Prop} {k : Pt} {u : Value} (hk : IsP w S k u) : ∀ {l : List Pt} {c : List Value} (n : Nat), CsP w S l c → CsP w S (l.set n k) (c.set n u)
  | [], _, n, h => by cases h; simp [CsP]
  | y :: ys, c, 0, ⟨a, b, e, h1, h2⟩ => by subst e; exact ⟨u, b, rfl, hk, h2⟩
  | y :: ys, c, n + 1, ⟨a, b, e, h1, h2⟩ => by subst e; exact ⟨a, b.set n u, rfl, h1, CsP.set hk n h2⟩
theorem CsP.one {w : World} {S : Nat → Prop} : ∀ {l : List Pt} {c : List Value}, CsP w S l c → ∀ u ∈ c, u.oneCell' = true
  | [], _, h, u, hu => by cases h; cases hu
  | x :: xs, c, ⟨a, b, e, h1, h2⟩, u, hu => by
    subst e
    rcases List.mem_cons.1 hu with rfl | hu
    · exact h1.one
    · exact CsP.one h2 u hu
theorem CsP.pc {w : World} {S : Nat → Prop} {ad : Addr} (hs : S ad.block) : ∀ {l : List Pt} {c : List Value} {n : Nat}, CsP w S l c → (∀ j u, c[j]? = some u → w.cell? (ad.add (n + j)) = some u) → PC w S l ad n
  | [], _, _, _, _ => by simp only [PC]
  | x :: xs, c, n, ⟨a, b, e, h1, h2⟩, h => by
    simp only [PC]
    subst e
    refine ⟨hs, ⟨a, h1, by have := h 0 a rfl; simpa using this⟩, CsP.pc hs h2 fun j u hu => ?_⟩
    rw [show n + 1 + j = n + (j + 1) by omega]
    exact h _ u (by simpa using hu)
theorem PC.cs {w : World} {S : Nat → Prop} : ∀ {l : List Pt} {ad : Addr} {n : Nat}, PC w S l ad n → ∃ c, CsP w S l c ∧ ∀ j u, c[j]? = some u → w.cell? (ad.add (n + j)) = some u
  | [], _, _, _ => ⟨[], rfl, fun j u h => by simp at h⟩
  | x :: xs, ad, n, h => by
    simp only [PC] at h
    obtain ⟨h1, ⟨a, h2, h3⟩, h4⟩ := h
    obtain ⟨b, h5, h6⟩ := PC.cs h4
    refine ⟨a :: b, ⟨a, b, rfl, h2, h5⟩, fun j u hu => ?_⟩
    cases j with
    | zero => simp at hu; subst hu; exact h3
    | succ j =>
      have := h6 j u (by simpa using hu)
      rwa [show n + 1 + j = n + (j + 1) by omega] at this
theorem PC.take {w : World} {S : Nat → Prop} : ∀ {l : List Pt} {ad : Addr} {m : Nat} (n : Nat), PC w S l ad m → PC w S (l.take n) ad m
  | [], _, _, n, h => by simpa using h
  | x :: xs, ad, m, 0, h => by simp only [List.take_zero, PC]
  | x :: xs, ad, m, n + 1, h => by
    simp only [PC, List.take_succ_cons] at h ⊢
    exact ⟨h.1, h.2.1, PC.take n h.2.2⟩
theorem PC.drop {w : World} {S : Nat → Prop} : ∀ {l : List Pt} {ad : Addr} {m : Nat} (n : Nat), PC w S l ad m → PC w S (l.drop n) ad (m + n)
  | [], _, _, n, h => by simp only [List.drop_nil, PC]
  | x :: xs, ad, m, 0, h => by simpa using h
  | x :: xs, ad, m, n + 1, h => by
    simp only [PC, List.drop_succ_cons] at h ⊢
    have := PC.drop n h.2.2
    rwa [show m + 1 + n = m + (n + 1) by omega] at this
theorem PC.move {w : World} {S : Nat → Prop} {p : Nat} : ∀ {l : List Pt} {ad : Addr} {m : Nat}, PC w S l ad (p + m) → PC w S l (ad.add p) m
  | [], _, _, _ => by simp only [PC]
  | x :: xs, ad, m, h => by
    simp only [PC] at h ⊢
    refine ⟨by rw [addr_add_block]; exact h.1, ?_, PC.move (by rw [← Nat.add_assoc]; exact h.2.2)⟩
    obtain ⟨u, h1, h2⟩ := h.2.1
    exact ⟨u, h1, by rw [addr_add_add]; exact h2⟩
/-- A slice of parts. -/
def IsPs (w : World) (S : Nat → Prop) (ks : List Pt) (v : Value) : Prop := ∃ A cap, v = .slice A ks.length cap ∧ ks.length ≤ cap ∧ (ks = [] ∨ ∃ ad, A = some ad ∧ PC w S ks ad 0)
theorem IsPs.keep {w w' : World} {S S' : Nat → Prop} (hk : Keeps w S w' S') {ks : List Pt} {v : Value} (h : IsPs w S ks v) : IsPs w' S' ks v := by
  obtain ⟨A, cap, h1, h2, h3⟩ := h
  refine ⟨A, cap, h1, h2, ?_⟩
  rcases h3 with h3 | ⟨ad, h3, h4⟩
  · exact .inl h3
  · exact .inr ⟨ad, h3, h4.keep hk⟩
theorem IsPs.below {w w' : World} {S : Nat → Prop} (hk : Below w.heap.size w w') {ks : List Pt} {v : Value} (h : IsPs w S ks v) : IsPs w' S ks v := h.keep (Keeps.below hk)
theorem IsPs.nil (w : World) (S : Nat → Prop) : IsPs w S [] (.slice none 0 0) := ⟨none, 0, rfl, by simp, .inl rfl⟩
theorem IsPs.addr {w : World} {S : Nat → Prop} {ks : List Pt} {v : Value} (h : IsPs w S ks v) (hn : 0 < ks.length) : ∃ ad cap, v = .slice (some ad) ks.length cap ∧ ks.length ≤ cap ∧ PC w S ks ad 0 := by
  obtain ⟨A, cap, rfl, h2, rfl | ⟨ad, rfl, h4⟩⟩ := h
  · simp at hn
  · exact ⟨ad, cap, rfl, h2, h4⟩
theorem IsPs.of {w : World} {S : Nat → Prop} {ks : List Pt} {ad : Addr} {cap : Nat} (hc : ks.length ≤ cap) (h : PC w S ks ad 0) : IsPs w S ks (.slice (some ad) ks.length cap) := ⟨_, _, rfl, hc, .inr ⟨_, rfl, h⟩⟩
/-- A tree in memory. -/
def IsF (w : World) (S : Nat → Prop) : Ft → Option Addr → Prop
  | .nil, p => p = none
  | .mk l m r, p => ∃ b vl vr q, p = some ⟨b, 0, none⟩ ∧ S b ∧ w.cell? ⟨b, 0, none⟩ = some (.int .i64 ((Ft.items (.mk l m r)).length : Nat)) ∧ w.cell? ⟨b, 1, none⟩ = some vl ∧ w.cell? ⟨b, 2, none⟩ = some vr ∧ w.cell? ⟨b, 3, none⟩ = some (.pointer q) ∧
      IsPs w S l vl ∧ IsPs w S r vr ∧ IsF w S m q
theorem IsF.nil_eq {w : World} {S : Nat → Prop} {p : Option Addr} (h : IsF w S .nil p) : p = none := h
theorem IsF.eq {w : World} {S : Nat → Prop} {l r : List Pt} {m : Ft} {p : Option Addr} (h : IsF w S (.mk l m r) p) : ∃ b vl vr q, p = some ⟨b, 0, none⟩ ∧ S b ∧ w.cell? ⟨b, 0, none⟩ = some (.int .i64 ((Ft.items (.mk l m r)).length : Nat)) ∧ w.cell? ⟨b, 1, none⟩ = some vl ∧ w.cell? ⟨b, 2, none⟩ = some vr ∧ w.cell? ⟨b, 3, none⟩ = some (.pointer q) ∧
      IsPs w S l vl ∧ IsPs w S r vr ∧ IsF w S m q := h
theorem IsF.keep {w w' : World} {S S' : Nat → Prop} (hk : Keeps w S w' S') : ∀ {t : Ft} {p : Option Addr}, IsF w S t p → IsF w' S' t p
  | .nil, _, h => h
  | .mk l m r, _, ⟨b, vl, vr, q, e, h1, h2, h3, h4, h5, h6, h7, h8⟩ =>
    ⟨b, vl, vr, q, e, (hk.cell (a := ⟨b, 0, none⟩) h1 h2).1, (hk.cell (a := ⟨b, 0, none⟩) h1 h2).2, (hk.cell (a := ⟨b, 1, none⟩) h1 h3).2, (hk.cell (a := ⟨b, 2, none⟩) h1 h4).2, (hk.cell (a := ⟨b, 3, none⟩) h1 h5).2, h6.keep hk, h7.keep hk, IsF.keep hk h8⟩
theorem IsF.below {w w' : World} {S : Nat → Prop} (hk : Below w.heap.size w w') {t : Ft} {p : Option Addr} (h : IsF w S t p) : IsF w' S t p := h.keep (Keeps.below hk)
/-- What is old, and what is new since w. -/
def Old (w : World) (S : Nat → Prop) (b : Nat) : Prop := (S b ∧ b < w.heap.size) ∨ w.heap.size ≤ b
theorem keeps_old {w w' : World} {S : Nat → Prop} (hb : Below w.heap.size w w') : Keeps w S w' (Old w S) := Keeps.below_to hb fun b h1 h2 => .inl ⟨h2, h1⟩
theorem old_old {w w1 w2 : World} {S : Nat → Prop} (hb : Below w.heap.size w w1) (hb2 : Below w1.heap.size w1 w2) : Keeps w1 (Old w S) w2 (Old w S) := Keeps.below hb2
/-- New since a later world. -/
theorem old_later {w w1 : World} {S : Nat → Prop} (hb : Below w.heap.size w w1) (b : Nat) (h : Old w1 (Old w S) b) : Old w S b := by
  rcases h with ⟨h, _⟩ | h
  · exact h
  · exact .inr (Nat.le_trans hb.size h)
end Go.Proofs.YtjjbhnkplbjfeaaDoor
