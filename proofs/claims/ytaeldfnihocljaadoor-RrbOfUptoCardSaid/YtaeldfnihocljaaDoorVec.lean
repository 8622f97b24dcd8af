/- Dense trees, and vectors in memory. -/
import Derived.Test.YtaeldfnihocljaaDoorApp2
set_option linter.unusedVariables false
namespace Go.Proofs.YtaeldfnihocljaaDoor
open Go.RowKit

/-- A full tree of a height. -/
def Pf : Nat → N → Prop
  | 0, _ => False
  | 1, n => ∃ l : List V, n = .leaf l ∧ l.length = 32
  | h + 2, n => ∃ ks, n = .branch ks ∧ ks.length = 32 ∧ ∀ k, k ∈ ks → Pf (h + 1) k
/-- A dense tree: every node but the last ones is full. -/
def Dn : Nat → N → Prop
  | 0, _ => False
  | 1, n => ∃ l : List V, n = .leaf l ∧ l ≠ [] ∧ l.length ≤ 32
  | h + 2, n => ∃ ks k, n = .branch (ks ++ [k]) ∧ ks.length < 32 ∧ (∀ x, x ∈ ks → Pf (h + 1) x) ∧ Dn (h + 1) k
theorem Pf.dn : ∀ {h : Nat} {n : N}, Pf h n → Dn h n
  | 0, _, h => h
  | 1, _, h => by
    obtain ⟨l, rfl, hl⟩ := h
    exact ⟨l, rfl, by intro e; subst e; simp at hl, by omega⟩
  | h + 2, _, hp => by
    obtain ⟨ks, rfl, hl, hk⟩ := hp
    have hne : ks ≠ [] := by intro e; subst e; simp at hl
    refine ⟨ks.dropLast, ks.getLast hne, by rw [List.dropLast_concat_getLast], by simp; omega, fun x hx => hk x (List.dropLast_subset _ hx), Pf.dn (hk _ (List.getLast_mem hne))⟩
theorem Dn.ok : ∀ {h : Nat} {n : N}, Dn h n → N.Ok n
  | 0, _, h => h.elim
  | 1, _, h => by
    obtain ⟨l, rfl, h1, h2⟩ := h
    exact N.Ok.mkleaf h1 h2
  | h + 2, _, hd => by
    obtain ⟨ks, k, rfl, hl, hk, hd⟩ := hd
    refine N.Ok.mk (by simp) (by simp; omega) fun x hx => ?_
    rcases List.mem_append.1 hx with hx | hx
    · exact Dn.ok (hk x hx).dn
    · rw [List.mem_singleton] at hx
      subst hx
      exact Dn.ok hd
theorem flat_length_all {c : Nat} : ∀ {ks : List N}, (∀ k, k ∈ ks → (N.items k).length = c) → (N.flat ks).length = ks.length * c
  | [], _ => by simp [N.flat]
  | k :: ks, h => by
    rw [N.flat, List.length_append, h k (by simp), flat_length_all fun x hx => h x (List.mem_cons_of_mem _ hx), List.length_cons, Nat.succ_mul]
    omega
theorem Pf.length : ∀ {h : Nat} {n : N}, Pf h n → (N.items n).length = 32 ^ h
  | 0, _, h => h.elim
  | 1, _, h => by
    obtain ⟨l, rfl, hl⟩ := h
    simpa [N.items] using hl
  | h + 2, _, hp => by
    obtain ⟨ks, rfl, hl, hk⟩ := hp
    rw [N.items, flat_length_all fun k hk' => Pf.length (hk k hk'), hl, Nat.pow_succ (m := h + 1), Nat.mul_comm]
theorem Dn.pos : ∀ {h : Nat} {n : N}, Dn h n → 0 < (N.items n).length
  | 0, _, h => h.elim
  | 1, _, h => by
    obtain ⟨l, rfl, h1, h2⟩ := h
    simp only [N.items]
    exact List.length_pos_iff.2 h1
  | h + 2, _, hd => by
    obtain ⟨ks, k, rfl, hl, hk, hd⟩ := hd
    have := Dn.pos hd
    rw [N.items, flat_append, flat_one, List.length_append]
    omega
/-- A level of nodes. -/
def Lv (h : Nat) (ks : List N) : Prop := ∃ js k, ks = js ++ [k] ∧ (∀ x, x ∈ js → Pf h x) ∧ Dn h k
theorem Lv.ok {h : Nat} {ks : List N} (hl : Lv h ks) : ∀ k, k ∈ ks → N.Ok k := by
  obtain ⟨js, k, rfl, h1, h2⟩ := hl
  intro x hx
  rcases List.mem_append.1 hx with hx | hx
  · exact (h1 x hx).dn.ok
  · rw [List.mem_singleton] at hx
    subst hx
    exact h2.ok
theorem Lv.ne {h : Nat} {ks : List N} (hl : Lv h ks) : ks ≠ [] := by
  obtain ⟨js, k, rfl, h1, h2⟩ := hl
  simp
/-- A part of a level. -/
theorem Lv.take {h : Nat} {ks : List N} (hl : Lv h ks) {n : Nat} (hn : n < ks.length) : ∀ k, k ∈ ks.take n → Pf h k := by
  obtain ⟨js, k, rfl, h1, h2⟩ := hl
  intro x hx
  rw [List.take_append_of_le_length (by simp at hn; omega)] at hx
  exact h1 x (List.mem_of_mem_take hx)
theorem Lv.drop {h : Nat} {ks : List N} (hl : Lv h ks) {n : Nat} (hn : n < ks.length) : Lv h (ks.drop n) := by
  obtain ⟨js, k, rfl, h1, h2⟩ := hl
  rw [List.drop_append_of_le_length (by simp at hn; omega)]
  exact ⟨_, k, rfl, fun x hx => h1 x (List.mem_of_mem_drop hx), h2⟩
theorem Lv.dn {h : Nat} {ks : List N} (hl : Lv (h + 1) ks) (hn : ks.length ≤ 32) : Dn (h + 2) (.branch ks) := by
  obtain ⟨js, k, rfl, h1, h2⟩ := hl
  exact ⟨js, k, rfl, by simp at hn; omega, h1, h2⟩
theorem Dn.lv {h : Nat} {ks : List N} (hd : Dn (h + 2) (.branch ks)) : Lv (h + 1) ks ∧ ks.length ≤ 32 := by
  obtain ⟨js, k, e, h1, h2, h3⟩ := hd
  injection e with e
  subst e
  exact ⟨⟨js, k, rfl, h2, h3⟩, by simp; omega⟩
theorem Lv.snoc {h : Nat} {ks : List N} {k : N} (h1 : ∀ x, x ∈ ks → Pf h x) (h2 : Dn h k) : Lv h (ks ++ [k]) := ⟨ks, k, rfl, h1, h2⟩

/-- A vector in memory: its items, its height, its block. -/
def IsR (w : World) (S : Nat → Prop) (l : List V) (h : Nat) (b : Nat) : Prop :=
  S b ∧ w.cell? ⟨b, 1, none⟩ = some (.int .i64 (h : Int)) ∧ l.length ≤ 65536 ∧ ((l = [] ∧ h = 0 ∧ w.cell? ⟨b, 0, none⟩ = some .nilIface) ∨ ∃ n u, w.cell? ⟨b, 0, none⟩ = some u ∧ IsN w S n u ∧ N.items n = l ∧ Dn h n ∧ (h = 1 ∨ ∃ ks, n = .branch ks ∧ 2 ≤ ks.length))
theorem IsR.keep {w w' : World} {S S' : Nat → Prop} (hk : Keeps w S w' S') {l : List V} {h b : Nat} (hr : IsR w S l h b) : IsR w' S' l h b := by
  obtain ⟨h0, h1, hl, h2⟩ := hr
  have h1' := hk.cell (a := ⟨b, 1, none⟩) h0 h1
  refine ⟨h1'.1, h1'.2, hl, ?_⟩
  rcases h2 with ⟨h2, h3, h4⟩ | ⟨n, u, h2, h3, h4⟩
  · exact .inl ⟨h2, h3, (hk.cell (a := ⟨b, 0, none⟩) h0 h4).2⟩
  · exact .inr ⟨n, u, (hk.cell (a := ⟨b, 0, none⟩) h0 h2).2, h3.keep hk, h4⟩
theorem IsR.below {w w' : World} {S : Nat → Prop} (hk : Below w.heap.size w w') {l : List V} {h b : Nat} (hr : IsR w S l h b) : IsR w' S l h b := hr.keep (Keeps.below hk)
theorem IsR.at {w : World} {S : Nat → Prop} {l : List V} {h b : Nat} (hr : IsR w S l h b) : b < w.heap.size := World.block_lt_of_cell? w _ hr.2.1

/-- Blocks of S that are old, and new ones. -/
def Old (w : World) (S : Nat → Prop) : Nat → Prop := fun b => (S b ∧ b < w.heap.size) ∨ w.heap.size ≤ b
theorem old_keeps {w wr : World} {S : Nat → Prop} (hf : Below w.heap.size w wr) {v : Value} (hv : ∀ k, v.ownBlock = some k → w.heap.size ≤ k) : Keeps w (fun b => S b ∧ b < w.heap.size) wr (fun b => Old w S b ∧ some b ≠ v.ownBlock) := fun b hb ⟨hs, hlt⟩ =>
  ⟨⟨.inl ⟨hs, hlt⟩, fun e => by have := hv b e.symm; omega⟩, hf.block b hb⟩
theorem leaf_part {w : World} {T : Nat → Prop} {r : List V} {A : Option Addr} (h : LA w T r A) (n : Nat) (hn : n ≤ r.length) : IsN w T (.leaf (r.take n)) (.iface 87 (.slice A n n)) := by
  have h1 := IsN.leaf_mk (cap := n) (by rw [List.length_take]; omega) (h.take n)
  rwa [List.length_take, Nat.min_eq_left hn] at h1
/-- What over tells lies in old blocks or in new ones, none of them a slice's own. -/
theorem branch_own {w W w' : World} {S : Nat → Prop} {v : Value} {ks : List N} {b : Nat} (h : IsB w' (fun b => ((Old w S b ∧ some b ≠ v.ownBlock) ∧ b < W.heap.size) ∨ W.heap.size ≤ b) ks b) (hw : w.heap.size ≤ W.heap.size) (hv : ∀ k, v.ownBlock = some k → k < W.heap.size) : IsB w' (fun b => Old w S b ∧ some b ≠ v.ownBlock) ks b :=
  h.keep (Keeps.weak fun b hb => by
    rcases hb with hb | hb
    · exact hb.1
    · exact ⟨.inr (Nat.le_trans hw hb), fun e => by have := hv b e.symm; omega⟩)
theorem Lv.of_all {h : Nat} {ks : List N} (hk : ∀ k, k ∈ ks → Pf h k) (hne : ks ≠ []) : Lv h ks :=
  ⟨ks.dropLast, ks.getLast hne, (List.dropLast_concat_getLast hne).symm, fun x hx => hk x (List.dropLast_subset _ hx), (hk _ (List.getLast_mem hne)).dn⟩
theorem LA.drop_if {w : World} {S : Nat → Prop} {r : List V} {ad : Addr} (h : LA w S r (some ad)) (n m c : Nat) (hm : m = n * 4) (hn : 0 < m) (hc : r.length ≤ c) : LA w S (r.drop n) (if c = n then some ad else some ⟨ad.block, ad.off + m, none⟩) := by
  split
  · exact .inl (List.drop_eq_nil_of_le (by omega))
  · have := h.drop n
    have e : ad.add m = ⟨ad.block, ad.off + m, none⟩ := by
      unfold Addr.add
      rw [if_neg (by omega)]
    rw [← hm, e] at this
    exact this
theorem IsN.form {w : World} {S : Nat → Prop} {k : N} {u : Value} (h : IsN w S k u) : ∃ t x, u = .iface t x := by
  cases k with
  | leaf l => obtain ⟨A, cap, rfl, _⟩ := h.leaf_eq; exact ⟨_, _, rfl⟩
  | branch ks => obtain ⟨b, rfl, _⟩ := h.branch_eq; exact ⟨_, _, rfl⟩
/-- What a slice of nodes leads to. -/
def KA (w : World) (S : Nat → Prop) (ks : List N) (A : Option Addr) : Prop := ks = [] ∨ ∃ ad, A = some ad ∧ KC w S ks ad 0
theorem KA.keep {w w' : World} {S S' : Nat → Prop} (hk : Keeps w S w' S') {ks : List N} {A : Option Addr} (h : KA w S ks A) : KA w' S' ks A := by
  rcases h with h | ⟨ad, h1, h2⟩
  · exact .inl h
  · exact .inr ⟨ad, h1, h2.keep hk⟩
theorem KA.drop_if {w : World} {S : Nat → Prop} {r : List N} {ad : Addr} (h : KC w S r ad 0) (n c : Nat) (hn : 0 < n) (hc : r.length ≤ c) : KA w S (r.drop n) (if c = n then some ad else some ⟨ad.block, ad.off + n, none⟩) := by
  split
  · exact .inl (List.drop_eq_nil_of_le (by omega))
  · have := h.drop n
    have e : ad.add n = ⟨ad.block, ad.off + n, none⟩ := by
      unfold Addr.add
      rw [if_neg (by omega)]
    refine .inr ⟨_, rfl, ?_⟩
    rw [← e]
    exact KC.move (by simpa using this)
/-- Where a slice of the call's own has grown. -/
theorem grown_keeps {W w1 : World} {v v1 : Value} {S : Nat → Prop} (hg : W.grownBy w1 v.ownBlock) (hat : v1.ownBlock = v.ownBlock ∨ v1.ownBlock = some W.heap.size ∨ v1.ownBlock = some (W.heap.size + 1)) : Keeps W (fun b => S b ∧ some b ≠ v.ownBlock) w1 (fun b => S b ∧ some b ≠ v1.ownBlock) := fun b hb ⟨hs, hne⟩ => by
  refine ⟨⟨hs, ?_⟩, hg.block b hb hne⟩
  rcases hat with hat | hat | hat
  · rw [hat]; exact hne
  · rw [hat]
    intro e
    injection e with e
    omega
  · rw [hat]
    intro e
    injection e with e
    omega
/-- A new box for a value. -/
theorem box0 (w : World) (t : TypeId) (c0 c1 c2 c3 : Value) : ∃ w1, w.alloc (.cells #[c0, c1, c2, c3] t) = w1 ∧ Below w.heap.size w w1 ∧ w.heap.size + 1 = w1.heap.size ∧ w1.heap[w.heap.size]? = some (.cells #[c0, c1, c2, c3] t (0, 0)) :=
  ⟨_, rfl, (Below.refl _ _).alloc (Nat.le_refl _) _, by simp, heap_alloc_new w _⟩
end Go.Proofs.YtaeldfnihocljaaDoor
