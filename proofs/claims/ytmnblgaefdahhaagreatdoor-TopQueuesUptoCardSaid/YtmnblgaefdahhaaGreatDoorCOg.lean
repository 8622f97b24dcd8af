/- Rows of whatever elements in memory, of the call's own; append. -/
import Derived.Test.YtmnblgaefdahhaaGreatDoorCBase

set_option linter.unusedVariables false
set_option linter.unusedSimpArgs false
namespace Go.Proofs.YtmnblgaefdahhaaGreatDoor
open Go.RowKit

/-- How an element lies in cells. -/
structure Elt (K : Type) (n : Nat) where
  E : World → (Nat → Prop) → K → List Value → Prop
  keep : ∀ {w w' : World} {S S' : Nat → Prop}, Keeps w S w' S' → ∀ {x : K} {c : List Value}, E w S x c → E w' S' x c
  one : ∀ {w : World} {S : Nat → Prop} {x : K} {c : List Value}, E w S x c → ∀ u ∈ c, u.oneCell' = true
  len : ∀ {w : World} {S : Nat → Prop} {x : K} {c : List Value}, E w S x c → c.length = n
variable {K : Type} {n : Nat}
/-- Cells that stand for elements. -/
def CsG (X : Elt K n) (w : World) (S : Nat → Prop) : List K → List Value → Prop
  | [], c => c = []
  | k :: ks, c => ∃ a b, c = a ++ b ∧ X.E w S k a ∧ CsG X w S ks b
theorem CsG.keep {X : Elt K n} {w w' : World} {S S' : Nat → Prop} (hk : Keeps w S w' S') : ∀ {l : List K} {c : List Value}, CsG X w S l c → CsG X w' S' l c
  | [], _, h => h
  | x :: xs, c, ⟨a, b, e, h1, h2⟩ => ⟨a, b, e, X.keep hk h1, CsG.keep hk h2⟩
theorem CsG.length {X : Elt K n} {w : World} {S : Nat → Prop} : ∀ {l : List K} {c : List Value}, CsG X w S l c → c.length = l.length * n
  | [], _, h => by cases h; simp
  | x :: xs, c, ⟨a, b, e, h1, h2⟩ => by rw [e, List.length_append, X.len h1, CsG.length h2, List.length_cons, Nat.add_mul]; omega
theorem CsG.append {X : Elt K n} {w : World} {S : Nat → Prop} {m : List K} {d : List Value} : ∀ {l : List K} {c : List Value}, CsG X w S l c → CsG X w S m d → CsG X w S (l ++ m) (c ++ d)
  | [], _, h, hx => by cases h; exact hx
  | y :: ys, c, ⟨a, b, e, h1, h2⟩, hx => ⟨a, b ++ d, by rw [e, List.append_assoc], h1, CsG.append h2 hx⟩
theorem CsG.one {X : Elt K n} {w : World} {S : Nat → Prop} : ∀ {l : List K} {c : List Value}, CsG X w S l c → ∀ u ∈ c, u.oneCell' = true
  | [], _, h, u, hu => by cases h; cases hu
  | x :: xs, c, ⟨a, b, e, h1, h2⟩, u, hu => by
    subst e
    rcases List.mem_append.1 hu with hu | hu
    · exact X.one h1 u hu
    · exact CsG.one h2 u hu
/-- The cells of an element. -/
theorem CsG.at {X : Elt K n} {w : World} {S : Nat → Prop} : ∀ {l : List K} {c : List Value}, CsG X w S l c → ∀ (i : Nat) (x : K), l[i]? = some x → ∃ a, X.E w S x a ∧ ∀ j u, a[j]? = some u → c[i * n + j]? = some u
  | [], _, _, i, x, hx => by simp at hx
  | y :: ys, c, ⟨a, b, e, h1, h2⟩, i, x, hx => by
    subst e
    have hl := X.len h1
    cases i with
    | zero =>
      simp only [List.getElem?_cons_zero, Option.some.injEq] at hx
      subst hx
      refine ⟨a, h1, fun j u hu => ?_⟩
      rw [Nat.zero_mul, Nat.zero_add, List.getElem?_append_left (List.getElem?_eq_some_iff.1 hu).1]
      exact hu
    | succ i =>
      simp only [List.getElem?_cons_succ] at hx
      obtain ⟨a2, h3, h4⟩ := CsG.at h2 i x hx
      refine ⟨a2, h3, fun j u hu => ?_⟩
      rw [Nat.succ_mul, List.getElem?_append_right (by omega), hl, show i * n + n + j - n = i * n + j by omega]
      exact h4 j u hu
/-- A row of the call's own, in a block from base on; what its elements lead to lies in blocks of S, none of them its own. -/
def OwnG (X : Elt K n) (T : TypeId) (w : World) (base : Nat) (S : Nat → Prop) (l : List K) (v : Value) : Prop := ∃ xs, w.ownsRow base T n v l.length xs ∧ CsG X w (fun b => S b ∧ some b ≠ v.ownBlock) l xs
variable {X : Elt K n} {T : TypeId}
theorem OwnG.nil (X : Elt K n) (T : TypeId) (w : World) (base : Nat) (S : Nat → Prop) : OwnG X T w base S [] (.slice none 0 0) := ⟨[], World.ownsRow_nil _ _ _ _, rfl⟩
theorem OwnG.keep {w w' : World} {base : Nat} {S S' : Nat → Prop} {l : List K} {v : Value} (h : OwnG X T w base S l v) (hk : Keeps w S w' S') (ho : ∀ k, v.ownBlock = some k → w'.heap[k]? = w.heap[k]?) : OwnG X T w' base S' l v := by
  obtain ⟨xs, ⟨h1, h2⟩, h3⟩ := h
  refine ⟨xs, ⟨h1, ?_⟩, h3.keep fun b hb ⟨hs, hne⟩ => ⟨⟨(hk b hb hs).1, hne⟩, (hk b hb hs).2⟩⟩
  rcases h2 with h2 | ⟨g, cap, cur, rfl, hg, hh, r⟩
  · exact .inl h2
  · exact .inr ⟨g, cap, cur, rfl, hg, by rw [ho g rfl]; exact hh, r⟩
theorem OwnG.own_lt {w : World} {base : Nat} {S : Nat → Prop} {l : List K} {v : Value} (h : OwnG X T w base S l v) (k : Nat) (hk : v.ownBlock = some k) : base ≤ k ∧ k < w.heap.size := by
  obtain ⟨xs, h, _⟩ := h
  exact h.lt k hk
theorem OwnG.below {w w' : World} {base : Nat} {S : Nat → Prop} {l : List K} {v : Value} (h : OwnG X T w base S l v) (hb : Below w.heap.size w w') : OwnG X T w' base S l v :=
  h.keep (Keeps.below hb) fun k hk => hb.block k (h.own_lt k hk).2
theorem OwnG.form {w : World} {base : Nat} {S : Nat → Prop} {l : List K} {v : Value} (h : OwnG X T w base S l v) : ∃ A cap, v = .slice A l.length cap ∧ l.length ≤ cap := by
  obtain ⟨xs, ⟨_, h⟩, _⟩ := h
  rcases h with ⟨rfl, h⟩ | ⟨g, cap, cur, rfl, _, _, h, _⟩
  · exact ⟨none, 0, by rw [h], by omega⟩
  · exact ⟨_, cap, rfl, h⟩
/-- One of its elements. -/
theorem OwnG.at {w : World} {base : Nat} {S : Nat → Prop} {l : List K} {v : Value} (h : OwnG X T w base S l v) (i : Nat) (x : K) (hx : l[i]? = some x) :
    ∃ g cap a, v = .slice (some ⟨g, 0, none⟩) l.length cap ∧ l.length ≤ cap ∧ base ≤ g ∧ g < w.heap.size ∧ X.E w (fun b => S b ∧ b ≠ g) x a ∧ ∀ j u, a[j]? = some u → w.cell? ⟨g, i * n + j, none⟩ = some u := by
  obtain ⟨xs, ⟨h1, h2⟩, h3⟩ := h
  have hi := (List.getElem?_eq_some_iff.1 hx).1
  rcases h2 with ⟨rfl, h2⟩ | ⟨g, cap, cur, rfl, hg, hh, hc, hm, hs, ht⟩
  · omega
  · obtain ⟨a, h4, h5⟩ := h3.at i x hx
    refine ⟨g, cap, a, rfl, hc, hg, (Array.getElem?_eq_some_iff.1 hh).1, X.keep (Keeps.weak fun b hb => ⟨hb.1, fun e => hb.2 (by rw [e]; rfl)⟩) h4, fun j u hu => ?_⟩
    have h6 := h5 j u hu
    rw [← ht, List.getElem?_take] at h6
    split at h6
    · simp only [World.cell?, hh]; simpa using h6
    · cases h6
section
variable {ops : Array Oper} {rest : List Oper} {o : Oper} {a : Act} {Q : Exit → Act → World → Prop}
theorem ownG_after {W w1 : World} {base : Nat} {S : Nat → Prop} {l m : List K} {v v1 : Value} {xs ys : List Value} (h1 : CsG X W (fun b => S b ∧ some b ≠ v.ownBlock) l xs) (h2 : CsG X W (fun b => S b ∧ some b ≠ v.ownBlock) m ys)
    (hg : W.grownBy w1 v.ownBlock) (hat : v1.ownBlock = v.ownBlock ∨ v1.ownBlock = some W.heap.size) (hown : w1.ownsRow base T n v1 (l.length + m.length) (xs ++ ys)) : OwnG X T w1 base S (l ++ m) v1 := by
  refine ⟨xs ++ ys, by rw [List.length_append]; exact hown, (h1.append h2).keep fun b hb ⟨hs, hne⟩ => ⟨⟨hs, ?_⟩, hg.block b hb hne⟩⟩
  rcases hat with hat | hat
  · rw [hat]; exact hne
  · rw [hat]
    intro e
    injection e with e
    omega
/-- append(v, x), x in the box that has just been made. -/
theorem append_oneG (X : Elt K n) (T ST : TypeId) {z : Value} {by' : Nat} (hinfo : (Tryz.prog.info? T).map (fun i => (i.zero, i.size, i.bytes)) = some (some z, n, by')) (hST : Tryz.prog.underlying ST = some (.slice T)) (hz : z.cells.size = n) (hn : 0 < n) (hby : by' ≤ 4096)
    {W : World} (base : Nat) (S : Nat → Prop) (hgd : o.guard = none) (s x : Operand) (ho : o.op = .call { callee := .builtin .append, args := #[s, x], argTypes := #[ST, ST] })
    (v : Value) (l : List K) (y : K) (c : List Value) (hs : a.eval s = v) (hx : a.eval x = .slice (some ⟨W.heap.size, 0, none⟩) 1 1) (HO : OwnG X T W base S l v) (hy : X.E W (fun b => S b ∧ some b ≠ v.ownBlock) y c)
    (hbase : base ≤ W.heap.size) (hl : l.length ≤ 4294967296)
    (h : ∀ v1 w1, OwnG X T w1 base S (l ++ [y]) v1 → W.grownBy w1 v.ownBlock → wpList Tryz.prog ops Q rest (a.put o.dst v1) w1) :
    wpList Tryz.prog ops Q (o :: rest) a (W.alloc (.cells c.toArray T)) := by
  obtain ⟨i, hi, hz0, hz1, hz2⟩ := info_parts hinfo
  obtain ⟨xs, hown, hcs⟩ := HO
  have hkk : Keeps W S (W.alloc (.cells c.toArray T)) S := Keeps.alloc _
  have hown' : (W.alloc (.cells c.toArray T)).ownsRow base T n v l.length xs := hown.alloc _
  have hmul : (l.length + 1) * by' ≤ 140737488355328 := by
    have h1 : (l.length + 1) * by' ≤ 4294967297 * 4096 := Nat.mul_le_mul (by omega) hby
    omega
  refine wpList_append_own_at (W.alloc (.cells c.toArray T)) hgd s x ST ho base T i z n by' hST hi hz0 hz1 hz2 hz hn v l.length xs hs hown' ⟨W.heap.size, 0, none⟩ 1 1 c hx (by rw [X.len hy]; omega)
    (World.news_of_block (cs := c.toArray) (heap_alloc_new W _)) (X.one hy) (by simp only [maxLen]; omega) hmul (by simp; omega) ?_
  intro v1 w1 hown1 hg _ hat
  have hg' : W.grownBy w1 v.ownBlock := World.grownBy.trans (World.grownBy_alloc W _ _) hg
  refine h v1 w1 ?_ hg'
  have hk : Keeps W (fun b => S b ∧ some b ≠ v.ownBlock) (W.alloc (.cells c.toArray T)) (fun b => S b ∧ some b ≠ v.ownBlock) := Keeps.alloc _
  exact ownG_after (hcs.keep hk) (m := [y]) ⟨_, [], by simp, X.keep hk hy, rfl⟩ hg hat hown1
end
/-- A pointer to something, as an element. -/
def eltPtr {K : Type} (I : World → (Nat → Prop) → K → Option Addr → Prop) (hk : ∀ {w w' : World} {S S' : Nat → Prop}, Keeps w S w' S' → ∀ {x : K} {p : Option Addr}, I w S x p → I w' S' x p) : Elt K 1 where
  E w S x c := ∃ p, c = [.pointer p] ∧ I w S x p
  keep := by
    intro w w' S S' h x c hx
    obtain ⟨p, rfl, hp⟩ := hx
    exact ⟨p, rfl, hk h hp⟩
  one := by
    intro w S x c hx u hu
    obtain ⟨p, rfl, hp⟩ := hx
    simp only [List.mem_cons, List.not_mem_nil, or_false] at hu
    subst hu
    rfl
  len := by
    intro w S x c hx
    obtain ⟨p, rfl, hp⟩ := hx
    rfl
/-- The least number that a predicate holds of. -/
noncomputable def leastN (R : Nat → Prop) : Nat := open Classical in if h : ∃ n, R n ∧ ∀ m, R m → n ≤ m then Classical.choose h else 0
theorem leastN_spec {R : Nat → Prop} (h : ∃ n, R n) : R (leastN R) ∧ ∀ m, R m → leastN R ≤ m := by
  have h2 : ∃ n, R n ∧ ∀ m, R m → n ≤ m := by
    obtain ⟨n, hn⟩ := h
    induction n using Nat.strongRecOn with
    | _ n ih =>
      by_cases hm : ∃ m, m < n ∧ R m
      · obtain ⟨m, h1, h2⟩ := hm
        exact ih m h1 h2
      · exact ⟨n, hn, fun m hr => Nat.le_of_not_lt fun hlt => hm ⟨m, hlt, hr⟩⟩
  unfold leastN
  rw [dif_pos h2]
  exact Classical.choose_spec h2
end Go.Proofs.YtmnblgaefdahhaaGreatDoor
