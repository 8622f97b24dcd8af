/- Vectors as trees, and how they lie in memory. -/
import Derived.Test.YtaeldfnihocljaaDoorArr
set_option linter.unusedVariables false
namespace Go.Proofs.YtaeldfnihocljaaDoor
open Go.RowKit

/-- A node: a leaf's items, or a branch's nodes. -/
inductive N where
  | leaf (l : List V)
  | branch (ks : List N)
mutual
def N.items : N → List V
  | .leaf l => l
  | .branch ks => N.flat ks
def N.flat : List N → List V
  | [] => []
  | k :: ks => N.items k ++ N.flat ks
end
instance : Inhabited N := ⟨.leaf []⟩
def kidAt (ks : List N) (i : Nat) : N := ks.getD i (.leaf [])
theorem kidAt_get {l : List N} {i : Nat} (h : i < l.length) : l[i]? = some (kidAt l i) := by
  simp [kidAt, List.getD_eq_getElem?_getD, List.getElem?_eq_getElem h]
theorem kidAt_mem {l : List N} {i : Nat} (h : i < l.length) : kidAt l i ∈ l := List.mem_of_getElem? (kidAt_get h)
theorem kidAt_drop {l : List N} {i : Nat} (h : i < l.length) : l.drop i = kidAt l i :: l.drop (i + 1) := by
  rw [List.drop_eq_getElem_cons h]
  congr 1
  have := kidAt_get h
  rw [List.getElem?_eq_getElem h] at this
  exact Option.some.inj this
theorem kidAt_take {l : List N} {i : Nat} (h : i < l.length) : l.take (i + 1) = l.take i ++ [kidAt l i] := by
  rw [List.take_succ_eq_append_getElem h]
  congr 2
  have := kidAt_get h
  rw [List.getElem?_eq_getElem h] at this
  exact Option.some.inj this
theorem flat_append : ∀ (a b : List N), N.flat (a ++ b) = N.flat a ++ N.flat b
  | [], b => by simp [N.flat]
  | k :: a, b => by simp [N.flat, flat_append a b]
theorem flat_one (k : N) : N.flat [k] = N.items k := by simp [N.flat]
/-- How many items are up to node i, it with them. -/
def uptoN (ks : List N) (i : Nat) : Nat := (N.flat (ks.take (i + 1))).length
/-- How many are ahead of node i. -/
def aheadN (ks : List N) (i : Nat) : Nat := (N.flat (ks.take i)).length
theorem uptoN_eq {ks : List N} {i : Nat} (h : i < ks.length) : uptoN ks i = aheadN ks i + (N.items (kidAt ks i)).length := by
  unfold uptoN aheadN
  rw [kidAt_take h, flat_append, flat_one, List.length_append]
theorem aheadN_succ (ks : List N) (i : Nat) : aheadN ks (i + 1) = uptoN ks i := rfl
theorem aheadN_zero (ks : List N) : aheadN ks 0 = 0 := by simp [aheadN, N.flat]
theorem aheadN_all (ks : List N) : aheadN ks ks.length = (N.flat ks).length := by unfold aheadN; rw [List.take_length]

/-- No node is empty, none has more than 32 places. -/
def N.Ok : N → Prop
  | .leaf l => l ≠ [] ∧ l.length ≤ 32
  | .branch ks => ks ≠ [] ∧ ks.length ≤ 32 ∧ ∀ k, k ∈ ks → N.Ok k
theorem N.Ok.leaf {l : List V} (h : N.Ok (.leaf l)) : l ≠ [] ∧ l.length ≤ 32 := by simpa only [N.Ok] using h
theorem N.Ok.branch {ks : List N} (h : N.Ok (.branch ks)) : ks ≠ [] ∧ ks.length ≤ 32 ∧ ∀ k, k ∈ ks → N.Ok k := by rw [N.Ok] at h; exact h
theorem N.Ok.mk {ks : List N} (h0 : ks ≠ []) (h1 : ks.length ≤ 32) (h2 : ∀ k, k ∈ ks → N.Ok k) : N.Ok (.branch ks) := by rw [N.Ok]; exact ⟨h0, h1, h2⟩
theorem N.Ok.mkleaf {l : List V} (h0 : l ≠ []) (h1 : l.length ≤ 32) : N.Ok (.leaf l) := by rw [N.Ok]; exact ⟨h0, h1⟩

/-! ### Memory -/
mutual
def IsN (w : World) (S : Nat → Prop) : N → Value → Prop
  | .leaf l, v => ∃ A cap, v = .iface 87 (.slice A l.length cap) ∧ l.length ≤ cap ∧ LA w S l A
  | .branch ks, v => ∃ b A cA B cB, v = .iface 84 (.pointer (some ⟨b, 0, none⟩)) ∧ S b ∧ w.cell? ⟨b, 0, none⟩ = some (.slice (some A) ks.length cA) ∧ ks.length ≤ cA ∧
      w.cell? ⟨b, 1, none⟩ = some (.slice (some B) ks.length cB) ∧ ks.length ≤ cB ∧ KC w S ks A 0 ∧ ∀ i, i < ks.length → S B.block ∧ w.cell? (B.add i) = some (.int .i64 (uptoN ks i))
def KC (w : World) (S : Nat → Prop) : List N → Addr → Nat → Prop
  | [], _, _ => True
  | k :: ks, ad, n => S ad.block ∧ (∃ u, IsN w S k u ∧ w.cell? (ad.add n) = some u) ∧ KC w S ks ad (n + 1)
end
theorem IsN.leaf_eq {w : World} {S : Nat → Prop} {l : List V} {v : Value} (h : IsN w S (.leaf l) v) : ∃ A cap, v = .iface 87 (.slice A l.length cap) ∧ l.length ≤ cap ∧ LA w S l A := by simpa only [IsN] using h
theorem IsN.leaf_mk {w : World} {S : Nat → Prop} {l : List V} {A : Option Addr} {cap : Nat} (h1 : l.length ≤ cap) (h : LA w S l A) : IsN w S (.leaf l) (.iface 87 (.slice A l.length cap)) := by
  simp only [IsN]
  exact ⟨A, cap, rfl, h1, h⟩
/-- What a branch's pointer leads to. -/
def IsB (w : World) (S : Nat → Prop) (ks : List N) (b : Nat) : Prop := ∃ A cA B cB, S b ∧ w.cell? ⟨b, 0, none⟩ = some (.slice (some A) ks.length cA) ∧ ks.length ≤ cA ∧
      w.cell? ⟨b, 1, none⟩ = some (.slice (some B) ks.length cB) ∧ ks.length ≤ cB ∧ KC w S ks A 0 ∧ ∀ i, i < ks.length → S B.block ∧ w.cell? (B.add i) = some (.int .i64 (uptoN ks i))
theorem IsN.branch_eq {w : World} {S : Nat → Prop} {ks : List N} {v : Value} (h : IsN w S (.branch ks) v) : ∃ b, v = .iface 84 (.pointer (some ⟨b, 0, none⟩)) ∧ IsB w S ks b := by
  simp only [IsN] at h
  obtain ⟨b, A, cA, B, cB, h1, h2⟩ := h
  exact ⟨b, h1, A, cA, B, cB, h2⟩
theorem IsN.branch_mk {w : World} {S : Nat → Prop} {ks : List N} {b : Nat} (h : IsB w S ks b) : IsN w S (.branch ks) (.iface 84 (.pointer (some ⟨b, 0, none⟩))) := by
  simp only [IsN]
  obtain ⟨A, cA, B, cB, h2⟩ := h
  exact ⟨b, A, cA, B, cB, rfl, h2⟩
mutual
theorem IsN.keep {w w' : World} {S S' : Nat → Prop} (hk : Keeps w S w' S') : ∀ {k : N} {v : Value}, IsN w S k v → IsN w' S' k v
  | .leaf l, v, h => by
    obtain ⟨A, cap, rfl, h1, h2⟩ := h.leaf_eq
    exact IsN.leaf_mk h1 (h2.keep hk)
  | .branch ks, v, h => by
    obtain ⟨b, rfl, A, cA, B, cB, hs, h0, h1, h2, h3, h4, h6⟩ := h.branch_eq
    refine IsN.branch_mk ⟨A, cA, B, cB, (hk.cell (a := ⟨b, 0, none⟩) hs h0).1, (hk.cell (a := ⟨b, 0, none⟩) hs h0).2, h1, (hk.cell (a := ⟨b, 1, none⟩) hs h2).2, h3, KC.keep hk h4, fun i hi => ?_⟩
    have := hk.cell (a := B.add i) (by rw [addr_add_block]; exact (h6 i hi).1) (h6 i hi).2
    rw [addr_add_block] at this
    exact this
theorem KC.keep {w w' : World} {S S' : Nat → Prop} (hk : Keeps w S w' S') : ∀ {ks : List N} {ad : Addr} {n : Nat}, KC w S ks ad n → KC w' S' ks ad n
  | [], _, _, _ => by simp only [KC]
  | k :: ks, ad, n, h => by
    simp only [KC] at h ⊢
    obtain ⟨h1, ⟨u, h2, h3⟩, h4⟩ := h
    have hc := hk.cell (a := ad.add n) (by rw [addr_add_block]; exact h1) h3
    refine ⟨by rw [addr_add_block] at hc; exact hc.1, ⟨u, IsN.keep hk h2, hc.2⟩, KC.keep hk h4⟩
end
theorem IsN.below {w w' : World} {S : Nat → Prop} (hk : Below w.heap.size w w') {k : N} {v : Value} (h : IsN w S k v) : IsN w' S k v := h.keep (Keeps.below hk)
theorem IsB.keep {w w' : World} {S S' : Nat → Prop} (hk : Keeps w S w' S') {ks : List N} {b : Nat} (h : IsB w S ks b) : IsB w' S' ks b := by
  have h1 := (IsN.branch_mk h).keep hk
  obtain ⟨b', e, h2⟩ := h1.branch_eq
  injection e with _ e
  injection e with e
  injection e with e
  injection e with e
  rw [e]
  exact h2
theorem IsB.below {w w' : World} {S : Nat → Prop} (hk : Below w.heap.size w w') {ks : List N} {b : Nat} (h : IsB w S ks b) : IsB w' S ks b := h.keep (Keeps.below hk)
theorem KC.at {w : World} {S : Nat → Prop} : ∀ {ks : List N} {ad : Addr} {n : Nat}, KC w S ks ad n → ∀ i, i < ks.length → S ad.block ∧ ∃ u, IsN w S (kidAt ks i) u ∧ w.cell? (ad.add (n + i)) = some u
  | [], _, _, _, i, hi => by simp at hi
  | k :: ks, ad, n, h, i, hi => by
    simp only [KC] at h
    obtain ⟨h1, ⟨u, h2, h3⟩, h4⟩ := h
    cases i with
    | zero => exact ⟨h1, u, h2, h3⟩
    | succ i =>
      obtain ⟨h5, u', h6, h7⟩ := KC.at h4 i (by simpa using hi)
      exact ⟨h5, u', h6, by rwa [show n + (i + 1) = n + 1 + i by omega]⟩

/-- Cells that stand for nodes. -/
def CsN (w : World) (S : Nat → Prop) : List N → List Value → Prop
  | [], c => c = []
  | k :: ks, c => ∃ u b, c = u :: b ∧ IsN w S k u ∧ CsN w S ks b
theorem CsN.keep {w w' : World} {S S' : Nat → Prop} (hk : Keeps w S w' S') : ∀ {l : List N} {c : List Value}, CsN w S l c → CsN w' S' l c
  | [], _, h => h
  | x :: xs, c, ⟨a, b, e, h1, h2⟩ => ⟨a, b, e, h1.keep hk, CsN.keep hk h2⟩
theorem CsN.length {w : World} {S : Nat → Prop} : ∀ {l : List N} {c : List Value}, CsN w S l c → c.length = l.length
  | [], _, h => by cases h; rfl
  | x :: xs, c, ⟨a, b, e, h1, h2⟩ => by rw [e, List.length_cons, CsN.length h2, List.length_cons]
theorem CsN.append {w : World} {S : Nat → Prop} {m : List N} {d : List Value} : ∀ {l : List N} {c : List Value}, CsN w S l c → CsN w S m d → CsN w S (l ++ m) (c ++ d)
  | [], _, h, hx => by cases h; exact hx
  | y :: ys, c, ⟨a, b, e, h1, h2⟩, hx => ⟨a, b ++ d, by rw [e, List.cons_append], h1, CsN.append h2 hx⟩
theorem CsN.take {w : World} {S : Nat → Prop} : ∀ {l : List N} {c : List Value} (n : Nat), CsN w S l c → CsN w S (l.take n) (c.take n)
  | [], _, n, h => by cases h; simp [CsN]
  | y :: ys, c, 0, ⟨a, b, e, h1, h2⟩ => by simp [CsN]
  | y :: ys, c, n + 1, ⟨a, b, e, h1, h2⟩ => by subst e; exact ⟨a, b.take n, by simp, h1, CsN.take n h2⟩
theorem CsN.set {w : World} {S : Nat → Prop} {k : N} {u : Value} (hk : IsN w S k u) : ∀ {l : List N} {c : List Value} (n : Nat), CsN w S l c → CsN w S (l.set n k) (c.set n u)
  | [], _, n, h => by cases h; simp [CsN]
  | y :: ys, c, 0, ⟨a, b, e, h1, h2⟩ => by subst e; exact ⟨u, b, rfl, hk, h2⟩
  | y :: ys, c, n + 1, ⟨a, b, e, h1, h2⟩ => by subst e; exact ⟨a, b.set n u, rfl, h1, CsN.set hk n h2⟩
theorem IsN.one {w : World} {S : Nat → Prop} {k : N} {u : Value} (h : IsN w S k u) : u.oneCell' = true := by
  cases k with
  | leaf l => obtain ⟨A, cap, rfl, _⟩ := h.leaf_eq; rfl
  | branch ks => obtain ⟨b, rfl, _⟩ := h.branch_eq; rfl
theorem CsN.one {w : World} {S : Nat → Prop} : ∀ {l : List N} {c : List Value}, CsN w S l c → ∀ u ∈ c, u.oneCell' = true
  | [], _, h, u, hu => by cases h; cases hu
  | x :: xs, c, ⟨a, b, e, h1, h2⟩, u, hu => by
    subst e
    rcases List.mem_cons.1 hu with rfl | hu
    · exact h1.one
    · exact CsN.one h2 u hu
theorem CsN.kc {w : World} {S : Nat → Prop} {ad : Addr} (hs : S ad.block) : ∀ {l : List N} {c : List Value} {n : Nat}, CsN w S l c → (∀ j u, c[j]? = some u → w.cell? (ad.add (n + j)) = some u) → KC w S l ad n
  | [], _, _, _, _ => by simp only [KC]
  | x :: xs, c, n, ⟨a, b, e, h1, h2⟩, h => by
    simp only [KC]
    subst e
    refine ⟨hs, ⟨a, h1, by have := h 0 a rfl; simpa using this⟩, CsN.kc hs h2 fun j u hu => ?_⟩
    rw [show n + 1 + j = n + (j + 1) by omega]
    exact h _ u (by simpa using hu)
theorem KC.cs {w : World} {S : Nat → Prop} : ∀ {l : List N} {ad : Addr} {n : Nat}, KC w S l ad n → ∃ c, CsN w S l c ∧ ∀ j u, c[j]? = some u → w.cell? (ad.add (n + j)) = some u
  | [], _, _, _ => ⟨[], rfl, fun j u h => by simp at h⟩
  | x :: xs, ad, n, h => by
    simp only [KC] at h
    obtain ⟨h1, ⟨a, h2, h3⟩, h4⟩ := h
    obtain ⟨b, h5, h6⟩ := KC.cs h4
    refine ⟨a :: b, ⟨a, b, rfl, h2, h5⟩, fun j u hu => ?_⟩
    cases j with
    | zero => simp at hu; subst hu; exact h3
    | succ j =>
      have := h6 j u (by simpa using hu)
      rwa [show n + 1 + j = n + (j + 1) by omega] at this

theorem KC.take {w : World} {S : Nat → Prop} : ∀ {l : List N} {ad : Addr} {m : Nat} (n : Nat), KC w S l ad m → KC w S (l.take n) ad m
  | [], _, _, n, h => by simpa using h
  | x :: xs, ad, m, 0, h => by simp only [List.take_zero, KC]
  | x :: xs, ad, m, n + 1, h => by
    simp only [KC, List.take_succ_cons] at h ⊢
    exact ⟨h.1, h.2.1, KC.take n h.2.2⟩
theorem KC.drop {w : World} {S : Nat → Prop} : ∀ {l : List N} {ad : Addr} {m : Nat} (n : Nat), KC w S l ad m → KC w S (l.drop n) ad (m + n)
  | [], _, _, n, h => by simp only [List.drop_nil, KC]
  | x :: xs, ad, m, 0, h => by simpa using h
  | x :: xs, ad, m, n + 1, h => by
    simp only [KC, List.drop_succ_cons] at h ⊢
    have := KC.drop n h.2.2
    rwa [show m + 1 + n = m + (n + 1) by omega] at this
theorem KC.move {w : World} {S : Nat → Prop} {p : Nat} : ∀ {l : List N} {ad : Addr} {m : Nat}, KC w S l ad (p + m) → KC w S l (ad.add p) m
  | [], _, _, _ => by simp only [KC]
  | x :: xs, ad, m, h => by
    simp only [KC] at h ⊢
    refine ⟨by rw [addr_add_block]; exact h.1, ?_, KC.move (by rw [← Nat.add_assoc]; exact h.2.2)⟩
    obtain ⟨u, h1, h2⟩ := h.2.1
    exact ⟨u, h1, by rw [addr_add_add]; exact h2⟩
/-- A slice of nodes. -/
def IsK (w : World) (S : Nat → Prop) (ks : List N) (v : Value) : Prop := ∃ A cap, v = .slice A ks.length cap ∧ ks.length ≤ cap ∧ (ks = [] ∨ ∃ ad, A = some ad ∧ KC w S ks ad 0)
theorem IsK.keep {w w' : World} {S S' : Nat → Prop} (hk : Keeps w S w' S') {ks : List N} {v : Value} (h : IsK w S ks v) : IsK w' S' ks v := by
  obtain ⟨A, cap, h1, h2, h3⟩ := h
  refine ⟨A, cap, h1, h2, ?_⟩
  rcases h3 with h3 | ⟨ad, h3, h4⟩
  · exact .inl h3
  · exact .inr ⟨ad, h3, h4.keep hk⟩
/-- A slice of nodes of the call's own. -/
def OwnN (w : World) (base : Nat) (S : Nat → Prop) (ks : List N) (v : Value) : Prop := ∃ xs, w.ownsRow base 81 1 v ks.length xs ∧ CsN w (fun b => S b ∧ some b ≠ v.ownBlock) ks xs
theorem OwnN.nil (w : World) (base : Nat) (S : Nat → Prop) : OwnN w base S [] (.slice none 0 0) := ⟨[], World.ownsRow_nil _ _ _ _, rfl⟩
theorem OwnN.keep {w w' : World} {base : Nat} {S S' : Nat → Prop} {l : List N} {v : Value} (h : OwnN w base S l v) (hk : Keeps w S w' S') (ho : ∀ k, v.ownBlock = some k → w'.heap[k]? = w.heap[k]?) : OwnN w' base S' l v := by
  obtain ⟨xs, ⟨h1, h2⟩, h3⟩ := h
  refine ⟨xs, ⟨h1, ?_⟩, h3.keep fun b hb ⟨hs, hne⟩ => ⟨⟨(hk b hb hs).1, hne⟩, (hk b hb hs).2⟩⟩
  rcases h2 with h2 | ⟨g, cap, cur, rfl, hg, hh, r⟩
  · exact .inl h2
  · exact .inr ⟨g, cap, cur, rfl, hg, by rw [ho g rfl]; exact hh, r⟩
theorem OwnN.own_lt {w : World} {base : Nat} {S : Nat → Prop} {l : List N} {v : Value} (h : OwnN w base S l v) (k : Nat) (hk : v.ownBlock = some k) : base ≤ k ∧ k < w.heap.size := by
  obtain ⟨xs, h, _⟩ := h
  exact h.lt k hk
theorem OwnN.below {w w' : World} {base : Nat} {S : Nat → Prop} {l : List N} {v : Value} (h : OwnN w base S l v) (hb : Below w.heap.size w w') : OwnN w' base S l v :=
  h.keep (Keeps.below hb) fun k hk => hb.block k (h.own_lt k hk).2
theorem OwnN.form {w : World} {base : Nat} {S : Nat → Prop} {l : List N} {v : Value} (h : OwnN w base S l v) : ∃ A cap, v = .slice A l.length cap ∧ l.length ≤ cap := by
  obtain ⟨xs, ⟨_, h⟩, _⟩ := h
  rcases h with ⟨rfl, h⟩ | ⟨g, cap, cur, rfl, _, _, h, _⟩
  · exact ⟨none, 0, by rw [h], by omega⟩
  · exact ⟨_, cap, rfl, h⟩
theorem OwnN.is {w : World} {base : Nat} {S S' : Nat → Prop} {l : List N} {v : Value} (h : OwnN w base S l v) (hs : ∀ b, S b → S' b) (hb : ∀ b, base ≤ b → S' b) : IsK w S' l v := by
  obtain ⟨xs, h1, h2⟩ := h
  have h2' : CsN w S' l xs := h2.keep (Keeps.weak fun b h => hs b h.1)
  obtain ⟨h3, h4⟩ := h1
  rcases h4 with ⟨rfl, h4⟩ | ⟨g, cap, cur, rfl, hg, hh, hc, _, _, ht⟩
  · obtain rfl : l = [] := List.eq_nil_of_length_eq_zero h4
    exact ⟨none, 0, rfl, by simp, .inl rfl⟩
  · refine ⟨_, cap, rfl, hc, .inr ⟨_, rfl, CsN.kc (hb g hg) h2' fun j u hu => ?_⟩⟩
    rw [plus0, Nat.zero_add]
    have h5 : cur.toList[j]? = some u := by
      rw [← ht] at hu
      rw [List.getElem?_take] at hu
      split at hu
      · exact hu
      · cases hu
    simp only [World.cell?, hh]
    simpa using h5
/-- A node stored into it. -/
theorem OwnN.store {w : World} {base : Nat} {S : Nat → Prop} {l : List N} {v : Value} (h : OwnN w base S l v) {i : Nat} (hi : i < l.length) {k : N} {u : Value} (hk : IsN w (fun b => S b ∧ some b ≠ v.ownBlock) k u) :
    ∃ g cap, v = .slice (some ⟨g, 0, none⟩) l.length cap ∧ base ≤ g ∧ g < w.heap.size ∧ (w.cell? ⟨g, i, none⟩).isSome = true ∧ w.frozen? ⟨g, i, none⟩ = false ∧ OwnN (w.setCell ⟨g, i, none⟩ u) base S (l.set i k) v := by
  obtain ⟨xs, ⟨h1, h2⟩, h3⟩ := h
  rcases h2 with ⟨rfl, h2⟩ | ⟨g, cap, cur, rfl, hg, hh, hc, hm, hs, ht⟩
  · omega
  · have hlt := (Array.getElem?_eq_some_iff.1 hh).1
    refine ⟨g, cap, rfl, hg, hlt, ?_, free4 hh i, xs.set i u, ⟨?_, .inr ⟨g, cap, cur.setIfInBounds i u, ?_, hg, blockset hh i u, ?_, hm, by simpa using hs, ?_⟩⟩, ?_⟩
    · simp only [World.cell?, hh]
      have : i < cur.size := by omega
      simp [this]
    · simpa using h1
    · simp
    · simpa using hc
    · rw [← ht]
      simp [List.take_set]
    · have hK : Keeps w (fun b => S b ∧ some b ≠ (Value.slice (some ⟨g, 0, none⟩) l.length cap).ownBlock) (w.setCell ⟨g, i, none⟩ u) (fun b => S b ∧ some b ≠ (Value.slice (some ⟨g, 0, none⟩) l.length cap).ownBlock) := Keeps.set (fun h => h.2 rfl) u
      exact (CsN.set hk i h3).keep hK
end Go.Proofs.YtaeldfnihocljaaDoor
