/- Stable sorting, in plain Lean: two rows turned about, two sorted rows merged. -/
import Derived.Sort.LotA

set_option linter.unusedVariables false
set_option linter.unusedSimpArgs false
namespace Go.Proofs.YtmnblgaefdahhaaGreatDoor
open Go.Sort
section
variable {α : Type}
/-- What `rotate` says: the rows a..m and m..b change places. -/
def rotN (a m b : Nat) (f : Nat → α) (x : Nat) : α :=
  if a ≤ x ∧ x < a + (b - m) then f (x - a + m) else if a + (b - m) ≤ x ∧ x < b then f (x - (b - m)) else f x
/-- What `swapRange` says: n places from a, and from b, change places. -/
def swpN (a b n : Nat) (f : Nat → α) (x : Nat) : α :=
  if a ≤ x ∧ x < a + n then f (b + (x - a)) else if b ≤ x ∧ x < b + n then f (a + (x - b)) else f x
theorem swpN_zero (a b : Nat) (f : Nat → α) (x : Nat) : swpN a b 0 f x = f x := by
  unfold swpN
  rw [if_neg (by omega), if_neg (by omega)]
theorem rotN_swap (i m : Nat) (f : Nat → α) (him : i ≤ m) (x : Nat) : swpN (m - i) m i f x = rotN (m - i) m (m + i) f x := by
  unfold swpN rotN
  (repeat' split) <;> first | rfl | (exfalso; omega) | (congr 1; omega)
theorem rotN_left (i j m : Nat) (f g : Nat → α) (him : i ≤ m) (hij : j < i) (hg : ∀ x, g x = swpN (m - i) m j f x) (x : Nat) : rotN (m - (i - j)) m (m + j) g x = rotN (m - i) m (m + j) f x := by
  unfold rotN
  simp only [hg]
  unfold swpN
  (repeat' split) <;> first | rfl | (exfalso; omega) | (congr 1; omega)
theorem rotN_right (i j m : Nat) (f g : Nat → α) (him : i ≤ m) (hij : i < j) (hg : ∀ x, g x = swpN (m - i) (m + j - i) i f x) (x : Nat) : rotN (m - i) m (m + (j - i)) g x = rotN (m - i) m (m + j) f x := by
  unfold rotN
  simp only [hg]
  unfold swpN
  (repeat' split) <;> first | rfl | (exfalso; omega) | (congr 1; omega)
theorem rotN_none (a b : Nat) (f : Nat → α) (x : Nat) : rotN a a b f x = f x := by
  unfold rotN
  (repeat' split) <;> first | rfl | (exfalso; omega) | (congr 1; omega)
theorem rotN_end (a m : Nat) (f : Nat → α) (x : Nat) : rotN a m m f x = f x := by
  unfold rotN
  (repeat' split) <;> first | rfl | (exfalso; omega) | (congr 1; omega)
variable {lt : α → α → Bool}
theorem lt_le (S : SWO lt) {x y z : α} (h : lt x y = true) (k : lt z y = false) : lt x z = true := by
  cases e : lt x z with
  | true => rfl
  | false => rw [S.ntrans x z y e k] at h; cases h
theorem le_lt (S : SWO lt) {x y z : α} (h : lt x y = true) (k : lt x z = false) : lt z y = true := by
  cases e : lt z y with
  | true => rfl
  | false => rw [S.ntrans x z y k e] at h; cases h
theorem lt_not (S : SWO lt) {x y : α} (h : lt x y = true) : lt y x = false := by
  cases e : lt y x with
  | false => rfl
  | true => have := S.trans x y x h e; rw [S.irrefl] at this; cases this
end
section
variable {α : Type} [Inhabited α]
theorem swpN_step {a b i : Nat} {d dk : Array α} (hab : a + i < b) (hs : b + i < d.size) (hz : dk.size = d.size) (h : ∀ x, dk[x]! = swpN a b i (fun x => d[x]!) x) (x : Nat) :
    (swp dk (a + i) (b + i))[x]! = swpN a b (i + 1) (fun x => d[x]!) x := by
  rw [swp_get dk (by omega) (by omega), h, h, h]
  unfold swpN
  (repeat' split) <;> first | rfl | (exfalso; omega) | (congr 1; omega) | (dsimp only; congr 1; omega)
theorem rotN_up {a i : Nat} {d dk : Array α} (hk : a ≤ i) (hs : i + 1 < d.size) (hz : dk.size = d.size) (h : ∀ x, dk[x]! = rotN a (a + 1) (i + 1) (fun x => d[x]!) x) (x : Nat) :
    (swp dk i (i + 1))[x]! = rotN a (a + 1) (i + 1 + 1) (fun x => d[x]!) x := by
  rw [swp_get dk (by omega) (by omega), h, h, h]
  unfold rotN
  (repeat' split) <;> first | rfl | (exfalso; omega) | (congr 1; omega) | (dsimp only; congr 1; omega)
theorem rotN_down {m i : Nat} {d dk : Array α} (h0 : 0 < i) (hk : i ≤ m) (hs : m < d.size) (hz : dk.size = d.size) (h : ∀ x, dk[x]! = rotN i m (m + 1) (fun x => d[x]!) x) (x : Nat) :
    (swp dk i (i - 1))[x]! = rotN (i - 1) m (m + 1) (fun x => d[x]!) x := by
  rw [swp_get dk (by omega) (by omega), h, h, h]
  unfold rotN
  (repeat' split) <;> first | rfl | (exfalso; omega) | (congr 1; omega) | (dsimp only; congr 1; omega)
variable {lt : α → α → Bool}
theorem sorted_le (S : SWO lt) {a b : Nat} {d : Array α} (h : SortedIn lt a b d) {i j : Nat} (hi : a ≤ i) (hij : i ≤ j) (hj : j < b) : lt d[j]! d[i]! = false := by
  by_cases e : i = j
  · subst e; exact S.irrefl _
  · exact h i j hi (by omega) hj
/-- The row a..m has one member alone: it goes behind those that are less. -/
theorem merged_one (S : SWO lt) {a i b : Nat} {d d' : Array α} (hai : a < i) (hib : i ≤ b) (hs : SortedIn lt (a + 1) b d) (h1 : ∀ c, a < c → c < i → lt d[c]! d[a]! = true) (h2 : ∀ c, i ≤ c → c < b → lt d[c]! d[a]! = false)
    (hd : ∀ x, d'[x]! = rotN a (a + 1) i (fun x => d[x]!) x) : SortedIn lt a b d' := by
  intro x y hx hxy hy
  rw [hd, hd]
  unfold rotN
  by_cases e1 : y < a + (i - (a + 1))
  · rw [if_pos (by omega), if_pos (by omega)]
    exact hs _ _ (by omega) (by omega) (by omega)
  · rw [if_neg (by omega)]
    by_cases e2 : y < i
    · rw [if_pos (by omega), if_pos (by omega), show y - (i - (a + 1)) = a by omega]
      exact lt_not S (h1 _ (by omega) (by omega))
    · rw [if_neg (by omega)]
      by_cases e3 : x < a + (i - (a + 1))
      · rw [if_pos (by omega)]
        exact hs _ _ (by omega) (by omega) (by omega)
      · rw [if_neg (by omega)]
        by_cases e4 : x < i
        · rw [if_pos (by omega), show x - (i - (a + 1)) = a by omega]
          exact h2 _ (by omega) (by omega)
        · rw [if_neg (by omega)]
          exact hs _ _ (by omega) hxy hy
/-- The row m..b has one member alone: it goes ahead of those that are above it. -/
theorem merged_last (S : SWO lt) {a i m : Nat} {d d' : Array α} (hai : a ≤ i) (him : i ≤ m) (hs : SortedIn lt a m d) (h1 : ∀ c, a ≤ c → c < i → lt d[m]! d[c]! = false) (h2 : ∀ c, i ≤ c → c < m → lt d[m]! d[c]! = true)
    (hd : ∀ x, d'[x]! = rotN i m (m + 1) (fun x => d[x]!) x) : SortedIn lt a (m + 1) d' := by
  intro x y hx hxy hy
  rw [hd, hd]
  unfold rotN
  by_cases e1 : y < i
  · rw [if_neg (by omega), if_neg (by omega), if_neg (by omega), if_neg (by omega)]
    exact hs _ _ hx hxy (by omega)
  · by_cases e2 : y = i
    · rw [if_pos (by omega), if_neg (by omega), if_neg (by omega), show y - i + m = m by omega]
      exact h1 _ hx (by omega)
    · rw [if_neg (by omega), if_pos (by omega)]
      by_cases e3 : x < i
      · rw [if_neg (by omega), if_neg (by omega)]
        exact hs _ _ hx (by omega) (by omega)
      · by_cases e4 : x = i
        · rw [if_pos (by omega), show x - i + m = m by omega]
          exact lt_not S (h2 _ (by omega) (by omega))
        · rw [if_neg (by omega), if_pos (by omega)]
          exact hs _ _ (by omega) (by omega) (by omega)
/-- Both rows cut so that all of the first parts is ahead of all of the others. -/
structure CutAt (lt : α → α → Bool) (a s m e b : Nat) (d : Array α) : Prop where
  lo : a ≤ s
  sm : s ≤ m
  me : m ≤ e
  eb : e ≤ b
  left : SortedIn lt a m d
  right : SortedIn lt m b d
  h1 : ∀ x y, a ≤ x → x < s → e ≤ y → y < b → lt d[y]! d[x]! = false
  h2 : ∀ x y, m ≤ x → x < e → s ≤ y → y < m → lt d[y]! d[x]! = false
theorem CutAt.rot {a s m e b : Nat} {d d' : Array α} (h : CutAt lt a s m e b d) (hd : ∀ x, d'[x]! = rotN s m e (fun x => d[x]!) x) :
    SortedIn lt a s d' ∧ SortedIn lt s (s + (e - m)) d' ∧ SortedIn lt (s + (e - m)) e d' ∧ SortedIn lt e b d' ∧ ∀ x y, a ≤ x → x < s + (e - m) → s + (e - m) ≤ y → y < b → lt d'[y]! d'[x]! = false := by
  obtain ⟨lo, sm, me, eb, hl, hr, h1, h2⟩ := h
  have d1 : ∀ x, x < s → d'[x]! = d[x]! := fun x hx => by rw [hd]; unfold rotN; rw [if_neg (by omega), if_neg (by omega)]
  have d2 : ∀ x, s ≤ x → x < s + (e - m) → d'[x]! = d[x - s + m]! := fun x hx hy => by rw [hd]; unfold rotN; rw [if_pos (by omega)]
  have d3 : ∀ x, s + (e - m) ≤ x → x < e → d'[x]! = d[x - (e - m)]! := fun x hx hy => by rw [hd]; unfold rotN; rw [if_neg (by omega), if_pos (by omega)]
  have d4 : ∀ x, e ≤ x → d'[x]! = d[x]! := fun x hx => by rw [hd]; unfold rotN; rw [if_neg (by omega), if_neg (by omega)]
  refine ⟨fun x y hx hxy hy => ?_, fun x y hx hxy hy => ?_, fun x y hx hxy hy => ?_, fun x y hx hxy hy => ?_, fun x y hx hx2 hy hy2 => ?_⟩
  · rw [d1 x (by omega), d1 y (by omega)]; exact hl _ _ hx hxy (by omega)
  · rw [d2 x hx (by omega), d2 y (by omega) hy]; exact hr _ _ (by omega) (by omega) (by omega)
  · rw [d3 x hx (by omega), d3 y (by omega) hy]; exact hl _ _ (by omega) (by omega) (by omega)
  · rw [d4 x hx, d4 y (by omega)]; exact hr _ _ (by omega) hxy hy
  · by_cases e1 : x < s
    · rw [d1 x e1]
      by_cases e2 : y < e
      · rw [d3 y hy e2]; exact hl _ _ hx (by omega) (by omega)
      · rw [d4 y (by omega)]; exact h1 _ _ hx e1 (by omega) hy2
    · rw [d2 x (by omega) hx2]
      by_cases e2 : y < e
      · rw [d3 y hy e2]; exact h2 _ _ (by omega) (by omega) (by omega) (by omega)
      · rw [d4 y (by omega)]; exact hr _ _ (by omega) (by omega) hy2
/-- Both halves sorted each by itself. -/
theorem merged_both {a mid b : Nat} {d1 d2 d3 : Array α} (ham : a ≤ mid) (hmb : mid ≤ b) (hb : b ≤ d1.size) (hx : ∀ x y, a ≤ x → x < mid → mid ≤ y → y < b → lt d1[y]! d1[x]! = false)
    (p1 : PermIn a mid d1 d2) (s1 : SortedIn lt a mid d2) (p2 : PermIn mid b d2 d3) (s2 : SortedIn lt mid b d3) : SortedIn lt a b d3 := by
  intro x y h1 hxy h2
  by_cases e1 : y < mid
  · rw [p2.2.1 x (by omega), p2.2.1 y (by omega)]
    exact s1 x y h1 hxy e1
  · by_cases e2 : x < mid
    · rw [p2.2.1 x (by omega)]
      refine permIn_all d1 d2 a mid (fun u => lt d3[y]! u = false) (by omega) p1 (fun i hi hi2 => ?_) x h1 e2
      refine permIn_all d2 d3 mid b (fun u => lt u d1[i]! = false) (by rw [p1.1]; exact hb) p2 (fun j hj hj2 => ?_) y (by omega) h2
      rw [p1.2.1 j (by omega)]
      exact hx i j hi hi2 hj hj2
    · exact s2 x y (by omega) hxy h2
/-- The place that the search by halves ends at. -/
theorem cut_found (S : SWO lt) {a m b s : Nat} {d : Array α} (ham : a < m) (hmb : m < b) (hl : SortedIn lt a m d) (hr : SortedIn lt m b d) (s0 r0 : Nat)
    (h0 : ((a + b) / 2 < m ∧ s0 = (a + b) / 2 + m - b ∧ r0 = (a + b) / 2) ∨ (m ≤ (a + b) / 2 ∧ s0 = a ∧ r0 = m)) (hs0 : s0 ≤ s) (hsr : s ≤ r0)
    (h1 : s0 < s → lt d[(a + b) / 2 + m - s]! d[s - 1]! = false) (h2 : s < r0 → lt d[(a + b) / 2 + m - 1 - s]! d[s]! = true) :
    CutAt lt a s m ((a + b) / 2 + m - s) b d ∧ s + ((a + b) / 2 + m - s - m) = (a + b) / 2 ∧ a ≤ s0 := by
  have ha0 : a ≤ s0 := by omega
  refine ⟨⟨by omega, by omega, by omega, by omega, hl, hr, fun x y hx hxs hy hyb => ?_, fun x y hx hxe hy hym => ?_⟩, by omega, ha0⟩
  · by_cases e : s0 < s
    · have k := h1 e
      have k1 : lt d[s - 1]! d[x]! = false := sorted_le S hl hx (by omega) (by omega)
      have k2 : lt d[y]! d[(a + b) / 2 + m - s]! = false := sorted_le S hr (by omega) hy hyb
      exact S.ntrans _ _ _ (S.ntrans _ _ _ k2 k) k1
    · omega
  · by_cases e : s < r0
    · have k := h2 e
      have k1 : lt d[(a + b) / 2 + m - 1 - s]! d[x]! = false := sorted_le S hr hx (by omega) (by omega)
      have k2 : lt d[y]! d[s]! = false := sorted_le S hl (by omega) hy hym
      exact S.ntrans _ _ _ (S.ntrans _ _ _ k2 (lt_not S k)) k1
    · omega
/-- What the search in one row found, at its two neighbours alone. -/
theorem merged_one' (S : SWO lt) {a i b : Nat} {d d' : Array α} (hai : a < i) (hib : i ≤ b) (hs : SortedIn lt (a + 1) b d) (h1 : a + 1 < i → lt d[i - 1]! d[a]! = true) (h2 : i < b → lt d[i]! d[a]! = false)
    (hd : ∀ x, d'[x]! = rotN a (a + 1) i (fun x => d[x]!) x) : SortedIn lt a b d' :=
  merged_one S hai hib hs (fun c hc hci => le_lt S (h1 (by omega)) (sorted_le S hs (by omega) (by omega) (by omega))) (fun c hc hcb => S.ntrans _ _ _ (sorted_le S hs (by omega) hc hcb) (h2 (by omega))) hd
theorem merged_last' (S : SWO lt) {a i m : Nat} {d d' : Array α} (hai : a ≤ i) (him : i ≤ m) (hs : SortedIn lt a m d) (h1 : a < i → lt d[m]! d[i - 1]! = false) (h2 : i < m → lt d[m]! d[i]! = true)
    (hd : ∀ x, d'[x]! = rotN i m (m + 1) (fun x => d[x]!) x) : SortedIn lt a (m + 1) d' :=
  merged_last S hai him hs (fun c hc hci => S.ntrans _ _ _ (h1 (by omega)) (sorted_le S hs hc (by omega) (by omega))) (fun c hc hcb => lt_le S (h2 (by omega)) (sorted_le S hs (by omega) hc hcb)) hd
/-- Merging's end. -/
theorem sym_done {a s m e b mid : Nat} {d d1 d2 d3 : Array α} (C : CutAt lt a s m e b d) (hmid : s + (e - m) = mid) (hb : b ≤ d.size) (P1 : PermIn s e d d1) (X1 : ∀ x, d1[x]! = rotN s m e (fun x => d[x]!) x)
    (h2 : (a < s ∧ s < mid ∧ PermIn a mid d1 d2 ∧ SortedIn lt a mid d2) ∨ (¬ (a < s ∧ s < mid) ∧ d2 = d1)) (h3 : (mid < e ∧ e < b ∧ PermIn mid b d2 d3 ∧ SortedIn lt mid b d3) ∨ (¬ (mid < e ∧ e < b) ∧ d3 = d2)) :
    PermIn a b d d3 ∧ SortedIn lt a b d3 := by
  obtain ⟨r1, r2, r3, r4, r5⟩ := C.rot X1
  rw [hmid] at r2 r3 r5
  have lo := C.lo
  have sm := C.sm
  have me := C.me
  have eb := C.eb
  have q2 : PermIn a mid d1 d2 ∧ SortedIn lt a mid d2 := by
    rcases h2 with ⟨_, _, p, q⟩ | ⟨hn, rfl⟩
    · exact ⟨p, q⟩
    · refine ⟨permIn_refl _ _ _, ?_⟩
      by_cases e1 : a = s
      · rw [e1]; exact r2
      · rw [show mid = s by omega]; exact r1
  have q3 : PermIn mid b d2 d3 ∧ SortedIn lt mid b d3 := by
    rcases h3 with ⟨_, _, p, q⟩ | ⟨hn, rfl⟩
    · exact ⟨p, q⟩
    · refine ⟨permIn_refl _ _ _, ?_⟩
      intro x y hx hxy hy
      rw [q2.1.2.1 x (by omega), q2.1.2.1 y (by omega)]
      by_cases e1 : mid = e
      · exact r4 x y (by omega) hxy hy
      · exact r3 x y hx hxy (by omega)
  have z1 := P1.1
  have z2 := q2.1.1
  refine ⟨permIn_trans _ _ _ _ _ (permIn_mono _ _ _ _ _ _ lo eb hb P1) (permIn_trans _ _ _ _ _ (permIn_mono _ _ _ _ _ _ (Nat.le_refl _) (by omega) (by omega) q2.1) (permIn_mono _ _ _ _ _ _ (by omega) (Nat.le_refl _) (by omega) q3.1)), ?_⟩
  exact merged_both (by omega) (by omega) (by omega) r5 q2.1 q2.2 q3.1 q3.2
theorem sorted_out {a b x y : Nat} {d d' : Array α} (P : PermIn x y d d') (h : SortedIn lt a b d) (hx : y ≤ a ∨ b ≤ x) : SortedIn lt a b d' := by
  intro i j hi hij hj
  rw [P.2.1 i (by omega), P.2.1 j (by omega)]
  exact h i j hi hij hj
end
end Go.Proofs.YtmnblgaefdahhaaGreatDoor
