/- Stable sorting, in plain Lean: two rows turned about, two sorted rows merged. slices.SortStableFunc at pairs: two rows change places. slices.SortStableFunc at pairs: two sorted rows merged, where one of them has one member alone. -/
import Derived.Sort.LotA
import Derived.Test.YtoiipdknamgcmaaGreatDoorProg
import Derived.Shelf.SlSortCmp.KitK
import Derived.Sort.WalkB2
import Derived.Sort.WalkB12
import Derived.Deep.LoopGhost
/- Stable sorting, in plain Lean: two rows turned about, two sorted rows merged. -/
set_option linter.unusedVariables false
set_option linter.unusedSimpArgs false
namespace Go.Proofs.YtoiipdknamgcmaaGreatDoor
open Go.Sort
section
variable {α : Type}
/-- What `rotate` says: the rows a..m and m..b change places. -/
def rotN (a m b : Nat) (f : Nat → α) (x : Nat) : α :=
  if a ≤ x ∧ x < a + (b - m) then f (x - a + m) else if a + (b - m) ≤ x ∧ x < b then f (x - (b - m)) else f x
/-- What `swapRange` says: n places from a, and from b, change places. -/
def swpN (a b n : Nat) (f : Nat → α) (x : Nat) : α :=
  if a ≤ x ∧ x < a + n then f (b + (x - a)) else if b ≤ x ∧ x < b + n then f (a + (x - b)) else f x
theorem swpN_zero (a b : Nat) (f : Nat → α) (x : Nat) : swpN a b 0 f x = f x := by
  unfold swpN
  rw [if_neg (by omega), if_neg (by omega)]
theorem rotN_swap (i m : Nat) (f : Nat → α) (him : i ≤ m) (x : Nat) : swpN (m - i) m i f x = rotN (m - i) m (m + i) f x := by
  unfold swpN rotN
  (repeat' split) <;> first | rfl | (exfalso; omega) | (congr 1; omega)
theorem rotN_left (i j m : Nat) (f g : Nat → α) (him : i ≤ m) (hij : j < i) (hg : ∀ x, g x = swpN (m - i) m j f x) (x : Nat) : rotN (m - (i - j)) m (m + j) g x = rotN (m - i) m (m + j) f x := by
  unfold rotN
  simp only [hg]
  unfold swpN
  (repeat' split) <;> first | rfl | (exfalso; omega) | (congr 1; omega)
theorem rotN_right (i j m : Nat) (f g : Nat → α) (him : i ≤ m) (hij : i < j) (hg : ∀ x, g x = swpN (m - i) (m + j - i) i f x) (x : Nat) : rotN (m - i) m (m + (j - i)) g x = rotN (m - i) m (m + j) f x := by
  unfold rotN
  simp only [hg]
  unfold swpN
  (repeat' split) <;> first | rfl | (exfalso; omega) | (congr 1; omega)
theorem rotN_none (a b : Nat) (f : Nat → α) (x : Nat) : rotN a a b f x = f x := by
  unfold rotN
  (repeat' split) <;> first | rfl | (exfalso; omega) | (congr 1; omega)
theorem rotN_end (a m : Nat) (f : Nat → α) (x : Nat) : rotN a m m f x = f x := by
  unfold rotN
  (repeat' split) <;> first | rfl | (exfalso; omega) | (congr 1; omega)
variable {lt : α → α → Bool}
theorem lt_le (S : SWO lt) {x y z : α} (h : lt x y = true) (k : lt z y = false) : lt x z = true := by
  cases e : lt x z with
  | true => rfl
  | false => rw [S.ntrans x z y e k] at h; cases h
theorem le_lt (S : SWO lt) {x y z : α} (h : lt x y = true) (k : lt x z = false) : lt z y = true := by
  cases e : lt z y with
  | true => rfl
  | false => rw [S.ntrans x z y k e] at h; cases h
theorem lt_not (S : SWO lt) {x y : α} (h : lt x y = true) : lt y x = false := by
  cases e : lt y x with
  | false => rfl
  | true => have := S.trans x y x h e; rw [S.irrefl] at this; cases this
end
section
variable {α : Type} [Inhabited α]
theorem swpN_step {a b i : Nat} {d dk : Array α} (hab : a + i < b) (hs : b + i < d.size) (hz : dk.size = d.size) (h : ∀ x, dk[x]! = swpN a b i (fun x => d[x]!) x) (x : Nat) :
    (swp dk (a + i) (b + i))[x]! = swpN a b (i + 1) (fun x => d[x]!) x := by
  rw [swp_get dk (by omega) (by omega), h, h, h]
  unfold swpN
  (repeat' split) <;> first | rfl | (exfalso; omega) | (congr 1; omega) | (dsimp only; congr 1; omega)
theorem rotN_up {a i : Nat} {d dk : Array α} (hk : a ≤ i) (hs : i + 1 < d.size) (hz : dk.size = d.size) (h : ∀ x, dk[x]! = rotN a (a + 1) (i + 1) (fun x => d[x]!) x) (x : Nat) :
    (swp dk i (i + 1))[x]! = rotN a (a + 1) (i + 1 + 1) (fun x => d[x]!) x := by
  rw [swp_get dk (by omega) (by omega), h, h, h]
  unfold rotN
  (repeat' split) <;> first | rfl | (exfalso; omega) | (congr 1; omega) | (dsimp only; congr 1; omega)
theorem rotN_down {m i : Nat} {d dk : Array α} (h0 : 0 < i) (hk : i ≤ m) (hs : m < d.size) (hz : dk.size = d.size) (h : ∀ x, dk[x]! = rotN i m (m + 1) (fun x => d[x]!) x) (x : Nat) :
    (swp dk i (i - 1))[x]! = rotN (i - 1) m (m + 1) (fun x => d[x]!) x := by
  rw [swp_get dk (by omega) (by omega), h, h, h]
  unfold rotN
  (repeat' split) <;> first | rfl | (exfalso; omega) | (congr 1; omega) | (dsimp only; congr 1; omega)
variable {lt : α → α → Bool}
theorem sorted_le (S : SWO lt) {a b : Nat} {d : Array α} (h : SortedIn lt a b d) {i j : Nat} (hi : a ≤ i) (hij : i ≤ j) (hj : j < b) : lt d[j]! d[i]! = false := by
  by_cases e : i = j
  · subst e; exact S.irrefl _
  · exact h i j hi (by omega) hj
/-- The row a..m has one member alone: it goes behind those that are less. -/
theorem merged_one (S : SWO lt) {a i b : Nat} {d d' : Array α} (hai : a < i) (hib : i ≤ b) (hs : SortedIn lt (a + 1) b d) (h1 : ∀ c, a < c → c < i → lt d[c]! d[a]! = true) (h2 : ∀ c, i ≤ c → c < b → lt d[c]! d[a]! = false)
    (hd : ∀ x, d'[x]! = rotN a (a + 1) i (fun x => d[x]!) x) : SortedIn lt a b d' := by
  intro x y hx hxy hy
  rw [hd, hd]
  unfold rotN
  by_cases e1 : y < a + (i - (a + 1))
  · rw [if_pos (by omega), if_pos (by omega)]
    exact hs _ _ (by omega) (by omega) (by omega)
  · rw [if_neg (by omega)]
    by_cases e2 : y < i
    · rw [if_pos (by omega), if_pos (by omega), show y - (i - (a + 1)) = a by omega]
      exact lt_not S (h1 _ (by omega) (by omega))
    · rw [if_neg (by omega)]
      by_cases e3 : x < a + (i - (a + 1))
      · rw [if_pos (by omega)]
        exact hs _ _ (by omega) (by omega) (by omega)
      · rw [if_neg (by omega)]
        by_cases e4 : x < i
        · rw [if_pos (by omega), show x - (i - (a + 1)) = a by omega]
          exact h2 _ (by omega) (by omega)
        · rw [if_neg (by omega)]
          exact hs _ _ (by omega) hxy hy
/-- The row m..b has one member alone: it goes ahead of those that are above it. -/
theorem merged_last (S : SWO lt) {a i m : Nat} {d d' : Array α} (hai : a ≤ i) (him : i ≤ m) (hs : SortedIn lt a m d) (h1 : ∀ c, a ≤ c → c < i → lt d[m]! d[c]! = false) (h2 : ∀ c, i ≤ c → c < m → lt d[m]! d[c]! = true)
    (hd : ∀ x, d'[x]! = rotN i m (m + 1) (fun x => d[x]!) x) : SortedIn lt a (m + 1) d' := by
  intro x y hx hxy hy
  rw [hd, hd]
  unfold rotN
  by_cases e1 : y < i
  · rw [if_neg (by omega), if_neg (by omega), if_neg (by omega), if_neg (by omega)]
    exact hs _ _ hx hxy (by omega)
  · by_cases e2 : y = i
    · rw [if_pos (by omega), if_neg (by omega), if_neg (by omega), show y - i + m = m by omega]
      exact h1 _ hx (by omega)
    · rw [if_neg (by omega), if_pos (by omega)]
      by_cases e3 : x < i
      · rw [if_neg (by omega), if_neg (by omega)]
        exact hs _ _ hx (by omega) (by omega)
      · by_cases e4 : x = i
        · rw [if_pos (by omega), show x - i + m = m by omega]
          exact lt_not S (h2 _ (by omega) (by omega))
        · rw [if_neg (by omega), if_pos (by omega)]
          exact hs _ _ (by omega) (by omega) (by omega)
/-- Both rows cut so that all of the first parts is ahead of all of the others. -/
structure CutAt (lt : α → α → Bool) (a s m e b : Nat) (d : Array α) : Prop where
  lo : a ≤ s
  sm : s ≤ m
  me : m ≤ e
  eb : e ≤ b
  left : SortedIn lt a m d
  right : SortedIn lt m b d
  h1 : ∀ x y, a ≤ x → x < s → e ≤ y → y < b → lt d[y]! d[x]! = false
  h2 : ∀ x y, m ≤ x → x < e → s ≤ y → y < m → lt d[y]! d[x]! = false
theorem CutAt.rot {a s m e b : Nat} {d d' : Array α} (h : CutAt lt a s m e b d) (hd : ∀ x, d'[x]! = rotN s m e (fun x => d[x]!) x) :
    SortedIn lt a s d' ∧ SortedIn lt s (s + (e - m)) d' ∧ SortedIn lt (s + (e - m)) e d' ∧ SortedIn lt e b d' ∧ ∀ x y, a ≤ x → x < s + (e - m) → s + (e - m) ≤ y → y < b → lt d'[y]! d'[x]! = false := by
  obtain ⟨lo, sm, me, eb, hl, hr, h1, h2⟩ := h
  have d1 : ∀ x, x < s → d'[x]! = d[x]! := fun x hx => by rw [hd]; unfold rotN; rw [if_neg (by omega), if_neg (by omega)]
  have d2 : ∀ x, s ≤ x → x < s + (e - m) → d'[x]! = d[x - s + m]! := fun x hx hy => by rw [hd]; unfold rotN; rw [if_pos (by omega)]
  have d3 : ∀ x, s + (e - m) ≤ x → x < e → d'[x]! = d[x - (e - m)]! := fun x hx hy => by rw [hd]; unfold rotN; rw [if_neg (by omega), if_pos (by omega)]
  have d4 : ∀ x, e ≤ x → d'[x]! = d[x]! := fun x hx => by rw [hd]; unfold rotN; rw [if_neg (by omega), if_neg (by omega)]
  refine ⟨fun x y hx hxy hy => ?_, fun x y hx hxy hy => ?_, fun x y hx hxy hy => ?_, fun x y hx hxy hy => ?_, fun x y hx hx2 hy hy2 => ?_⟩
  · rw [d1 x (by omega), d1 y (by omega)]; exact hl _ _ hx hxy (by omega)
  · rw [d2 x hx (by omega), d2 y (by omega) hy]; exact hr _ _ (by omega) (by omega) (by omega)
  · rw [d3 x hx (by omega), d3 y (by omega) hy]; exact hl _ _ (by omega) (by omega) (by omega)
  · rw [d4 x hx, d4 y (by omega)]; exact hr _ _ (by omega) hxy hy
  · by_cases e1 : x < s
    · rw [d1 x e1]
      by_cases e2 : y < e
      · rw [d3 y hy e2]; exact hl _ _ hx (by omega) (by omega)
      · rw [d4 y (by omega)]; exact h1 _ _ hx e1 (by omega) hy2
    · rw [d2 x (by omega) hx2]
      by_cases e2 : y < e
      · rw [d3 y hy e2]; exact h2 _ _ (by omega) (by omega) (by omega) (by omega)
      · rw [d4 y (by omega)]; exact hr _ _ (by omega) (by omega) hy2
/-- Both halves sorted each by itself. -/
theorem merged_both {a mid b : Nat} {d1 d2 d3 : Array α} (ham : a ≤ mid) (hmb : mid ≤ b) (hb : b ≤ d1.size) (hx : ∀ x y, a ≤ x → x < mid → mid ≤ y → y < b → lt d1[y]! d1[x]! = false)
    (p1 : PermIn a mid d1 d2) (s1 : SortedIn lt a mid d2) (p2 : PermIn mid b d2 d3) (s2 : SortedIn lt mid b d3) : SortedIn lt a b d3 := by
  intro x y h1 hxy h2
  by_cases e1 : y < mid
  · rw [p2.2.1 x (by omega), p2.2.1 y (by omega)]
    exact s1 x y h1 hxy e1
  · by_cases e2 : x < mid
    · rw [p2.2.1 x (by omega)]
      refine permIn_all d1 d2 a mid (fun u => lt d3[y]! u = false) (by omega) p1 (fun i hi hi2 => ?_) x h1 e2
      refine permIn_all d2 d3 mid b (fun u => lt u d1[i]! = false) (by rw [p1.1]; exact hb) p2 (fun j hj hj2 => ?_) y (by omega) h2
      rw [p1.2.1 j (by omega)]
      exact hx i j hi hi2 hj hj2
    · exact s2 x y (by omega) hxy h2
/-- The place that the search by halves ends at. -/
theorem cut_found (S : SWO lt) {a m b s : Nat} {d : Array α} (ham : a < m) (hmb : m < b) (hl : SortedIn lt a m d) (hr : SortedIn lt m b d) (s0 r0 : Nat)
    (h0 : ((a + b) / 2 < m ∧ s0 = (a + b) / 2 + m - b ∧ r0 = (a + b) / 2) ∨ (m ≤ (a + b) / 2 ∧ s0 = a ∧ r0 = m)) (hs0 : s0 ≤ s) (hsr : s ≤ r0)
    (h1 : s0 < s → lt d[(a + b) / 2 + m - s]! d[s - 1]! = false) (h2 : s < r0 → lt d[(a + b) / 2 + m - 1 - s]! d[s]! = true) :
    CutAt lt a s m ((a + b) / 2 + m - s) b d ∧ s + ((a + b) / 2 + m - s - m) = (a + b) / 2 ∧ a ≤ s0 := by
  have ha0 : a ≤ s0 := by omega
  refine ⟨⟨by omega, by omega, by omega, by omega, hl, hr, fun x y hx hxs hy hyb => ?_, fun x y hx hxe hy hym => ?_⟩, by omega, ha0⟩
  · by_cases e : s0 < s
    · have k := h1 e
      have k1 : lt d[s - 1]! d[x]! = false := sorted_le S hl hx (by omega) (by omega)
      have k2 : lt d[y]! d[(a + b) / 2 + m - s]! = false := sorted_le S hr (by omega) hy hyb
      exact S.ntrans _ _ _ (S.ntrans _ _ _ k2 k) k1
    · omega
  · by_cases e : s < r0
    · have k := h2 e
      have k1 : lt d[(a + b) / 2 + m - 1 - s]! d[x]! = false := sorted_le S hr hx (by omega) (by omega)
      have k2 : lt d[y]! d[s]! = false := sorted_le S hl (by omega) hy hym
      exact S.ntrans _ _ _ (S.ntrans _ _ _ k2 (lt_not S k)) k1
    · omega
/-- What the search in one row found, at its two neighbours alone. -/
theorem merged_one' (S : SWO lt) {a i b : Nat} {d d' : Array α} (hai : a < i) (hib : i ≤ b) (hs : SortedIn lt (a + 1) b d) (h1 : a + 1 < i → lt d[i - 1]! d[a]! = true) (h2 : i < b → lt d[i]! d[a]! = false)
    (hd : ∀ x, d'[x]! = rotN a (a + 1) i (fun x => d[x]!) x) : SortedIn lt a b d' :=
  merged_one S hai hib hs (fun c hc hci => le_lt S (h1 (by omega)) (sorted_le S hs (by omega) (by omega) (by omega))) (fun c hc hcb => S.ntrans _ _ _ (sorted_le S hs (by omega) hc hcb) (h2 (by omega))) hd
theorem merged_last' (S : SWO lt) {a i m : Nat} {d d' : Array α} (hai : a ≤ i) (him : i ≤ m) (hs : SortedIn lt a m d) (h1 : a < i → lt d[m]! d[i - 1]! = false) (h2 : i < m → lt d[m]! d[i]! = true)
    (hd : ∀ x, d'[x]! = rotN i m (m + 1) (fun x => d[x]!) x) : SortedIn lt a (m + 1) d' :=
  merged_last S hai him hs (fun c hc hci => S.ntrans _ _ _ (h1 (by omega)) (sorted_le S hs hc (by omega) (by omega))) (fun c hc hcb => lt_le S (h2 (by omega)) (sorted_le S hs (by omega) hc hcb)) hd
/-- Merging's end. -/
theorem sym_done {a s m e b mid : Nat} {d d1 d2 d3 : Array α} (C : CutAt lt a s m e b d) (hmid : s + (e - m) = mid) (hb : b ≤ d.size) (P1 : PermIn s e d d1) (X1 : ∀ x, d1[x]! = rotN s m e (fun x => d[x]!) x)
    (h2 : (a < s ∧ s < mid ∧ PermIn a mid d1 d2 ∧ SortedIn lt a mid d2) ∨ (¬ (a < s ∧ s < mid) ∧ d2 = d1)) (h3 : (mid < e ∧ e < b ∧ PermIn mid b d2 d3 ∧ SortedIn lt mid b d3) ∨ (¬ (mid < e ∧ e < b) ∧ d3 = d2)) :
    PermIn a b d d3 ∧ SortedIn lt a b d3 := by
  obtain ⟨r1, r2, r3, r4, r5⟩ := C.rot X1
  rw [hmid] at r2 r3 r5
  have lo := C.lo
  have sm := C.sm
  have me := C.me
  have eb := C.eb
  have q2 : PermIn a mid d1 d2 ∧ SortedIn lt a mid d2 := by
    rcases h2 with ⟨_, _, p, q⟩ | ⟨hn, rfl⟩
    · exact ⟨p, q⟩
    · refine ⟨permIn_refl _ _ _, ?_⟩
      by_cases e1 : a = s
      · rw [e1]; exact r2
      · rw [show mid = s by omega]; exact r1
  have q3 : PermIn mid b d2 d3 ∧ SortedIn lt mid b d3 := by
    rcases h3 with ⟨_, _, p, q⟩ | ⟨hn, rfl⟩
    · exact ⟨p, q⟩
    · refine ⟨permIn_refl _ _ _, ?_⟩
      intro x y hx hxy hy
      rw [q2.1.2.1 x (by omega), q2.1.2.1 y (by omega)]
      by_cases e1 : mid = e
      · exact r4 x y (by omega) hxy hy
      · exact r3 x y hx hxy (by omega)
  have z1 := P1.1
  have z2 := q2.1.1
  refine ⟨permIn_trans _ _ _ _ _ (permIn_mono _ _ _ _ _ _ lo eb hb P1) (permIn_trans _ _ _ _ _ (permIn_mono _ _ _ _ _ _ (Nat.le_refl _) (by omega) (by omega) q2.1) (permIn_mono _ _ _ _ _ _ (by omega) (Nat.le_refl _) (by omega) q3.1)), ?_⟩
  exact merged_both (by omega) (by omega) (by omega) r5 q2.1 q2.2 q3.1 q3.2
theorem sorted_out {a b x y : Nat} {d d' : Array α} (P : PermIn x y d d') (h : SortedIn lt a b d) (hx : y ≤ a ∨ b ≤ x) : SortedIn lt a b d' := by
  intro i j hi hij hj
  rw [P.2.1 i (by omega), P.2.1 j (by omega)]
  exact h i j hi hij hj
end
end Go.Proofs.YtoiipdknamgcmaaGreatDoor

/- slices.SortStableFunc at pairs: two rows change places. -/
set_option linter.unusedVariables false
set_option linter.unusedSimpArgs false
namespace Go.Proofs.YtoiipdknamgcmaaGreatDoor
open Go.Shelf Go.RowKit Go.Lib Go.Sort
/-- What the family is told of the program: its bodies, their types; the elements have k cells. -/
structure StP (P : Program) (k : Nat) : Prop where
  mixed : P.follows .mixedOrders = true
  f_swap : P.funcs[147]? = some Tryz.f147
  e_swap : ∀ args w, (callFunc 147 args).run P w = .ok (.enter 147 args) w
  f_rot : P.funcs[139]? = some Tryz.f139
  e_rot : ∀ args w, (callFunc 139 args).run P w = .ok (.enter 139 args) w
  f_sym : P.funcs[122]? = some Tryz.f122
  e_sym : ∀ args w, (callFunc 122 args).run P w = .ok (.enter 122 args) w
  f_ins : P.funcs[121]? = some Tryz.f121
  e_ins : ∀ args w, (callFunc 121 args).run P w = .ok (.enter 121 args) w
  f_stab : P.funcs[104]? = some Tryz.f104
  e_stab : ∀ args w, (callFunc 104 args).run P w = .ok (.enter 104 args) w
  f_top : P.funcs[78]? = some Tryz.f78
  e_top : ∀ args w, (callFunc 78 args).run P w = .ok (.enter 78 args) w
  t0 : P.underlying 0 = some (TypeDesc.tuple #[])
  a0 : ∀ w, (isAgg 0).run P w = .ok false w
  z0 : ∀ w, (Go.sizeOf 0).run P w = .ok 1 w
  v0 : ∀ w, (zeroValue 0).run P w = .ok (Value.tuple #[]) w
  t3 : P.underlying 3 = some (TypeDesc.int IntKind.i64)
  a3 : ∀ w, (isAgg 3).run P w = .ok false w
  z3 : ∀ w, (Go.sizeOf 3).run P w = .ok 1 w
  v3 : ∀ w, (zeroValue 3).run P w = .ok (Value.int IntKind.i64 0) w
  t4 : P.underlying 4 = some (TypeDesc.bool)
  a4 : ∀ w, (isAgg 4).run P w = .ok false w
  z4 : ∀ w, (Go.sizeOf 4).run P w = .ok 1 w
  v4 : ∀ w, (zeroValue 4).run P w = .ok (Value.bool false) w
  t80 : P.underlying 80 = some (TypeDesc.int IntKind.u64)
  a80 : ∀ w, (isAgg 80).run P w = .ok false w
  z80 : ∀ w, (Go.sizeOf 80).run P w = .ok 1 w
  v80 : ∀ w, (zeroValue 80).run P w = .ok (Value.int IntKind.u64 0) w
  t87 : P.underlying 87 = some (TypeDesc.slice 89)
  a87 : ∀ w, (isAgg 87).run P w = .ok false w
  z87 : ∀ w, (Go.sizeOf 87).run P w = .ok 1 w
  v87 : ∀ w, (zeroValue 87).run P w = .ok (Value.slice none 0 0) w
  aE : ∀ w, (isAgg 89).run P w = .ok true w
  zE : ∀ w, (Go.sizeOf 89).run P w = .ok k w
  t114 : P.underlying 114 = some (TypeDesc.func #[89, 89] #[3] false)
  a114 : ∀ w, (isAgg 114).run P w = .ok false w
  z114 : ∀ w, (Go.sizeOf 114).run P w = .ok 1 w
  v114 : ∀ w, (zeroValue 114).run P w = .ok (Value.nilFunc) w
variable {P : Program} {k : Nat} {α : Type} [Inhabited α]
set_option maxHeartbeats 4000000 in
set_option maxRecDepth 1000000 in
theorem swapRange_calls (L : StP P k) (enc : α → List Value) (g : Nat) (cb : Array Value) (blk off cap a b n : Nat) (d0 d : Array α) (w0 w : World)
    (R : RowK enc k w0 blk off d0) (hs : d0.size = d.size) (S : SWK enc k w0 blk off d w) (hab : a + n ≤ b) (hb : b + n ≤ d.size) (hsz : d.size < 4611686018427387904) :
    Calls P 147 #[.slice (some ⟨blk, off, none⟩) d.size cap, .int .i64 a, .int .i64 b, .int .i64 n, .func (.func g) #[] cb] w fun e w' =>
      e = .returned (.tuple #[]) ∧ ∃ d', SWK enc k w0 blk off d' w' ∧ PermIn a (b + n) d d' ∧ ∀ x, d'[x]! = swpN a b n (fun x => d[x]!) x := by
  have mixed := L.mixed; have t0 := L.t0; have a0 := L.a0; have z0 := L.z0; have v0 := L.v0; have t3 := L.t3; have a3 := L.a3; have z3 := L.z3; have v3 := L.v3; have t4 := L.t4; have a4 := L.a4; have z4 := L.z4; have v4 := L.v4
  have t80 := L.t80; have a80 := L.a80; have z80 := L.z80; have v80 := L.v80; have t87 := L.t87; have a87 := L.a87; have z87 := L.z87; have v87 := L.v87; have aE := L.aE; have zE := L.zE; have t114 := L.t114; have a114 := L.a114; have z114 := L.z114; have v114 := L.v114
  have S0 : Aside (SWK enc k w0 blk off d w) := S
  have FG := L.f_swap
  clear S
  go_enter FG, Tryz.ntmps147
  go_wp2
  go_loopg [10] n (fun kx s10 wr => ∃ (i : Nat) (dk : Array α), s10 = .int .i64 i ∧ i ≤ n ∧ n - i ≤ kx ∧ dk.size = d.size ∧ Aside (SWK enc k w0 blk off dk wr) ∧ Hid (PermIn a (b + n) d dk) ∧ Hid (∀ x, dk[x]! = swpN a b i (fun x => d[x]!) x))
  case atStart => exact ⟨0, d, rfl, Nat.zero_le _, Nat.le_refl _, rfl, S0, permIn_refl _ _ _, fun x => (swpN_zero _ _ _ _).symm⟩
  case round =>
    clear S0
    obtain ⟨i, dk, rfl, hi, hkx, hds, S1, HP, HX⟩ := hrel
    by_cases hlt : i < n
    · have hltz : (i : Int) < (n : Int) := by omega
      go_wp2_with fail
      have ea1 : ((a : Int) + (i : Int)).toNat = a + i := by omega
      have pa1 : (0 : Int) ≤ (a : Int) + (i : Int) := by omega
      have ba1 : (a : Int) + (i : Int) < (d.size : Int) := by omega
      have ra1 : IntKind.i64.wrap ((a : Int) + (i : Int)) = (a : Int) + (i : Int) := by rw [IntKind.wrap_i64]; omega
      have ec1 : ((b : Int) + (i : Int)).toNat = b + i := by omega
      have pc1 : (0 : Int) ≤ (b : Int) + (i : Int) := by omega
      have bc1 : (b : Int) + (i : Int) < (d.size : Int) := by omega
      have rc1 : IntKind.i64.wrap ((b : Int) + (i : Int)) = (b : Int) + (i : Int) := by rw [IntKind.wrap_i64]; omega
      have S2 : Aside (SWK enc k w0 blk off (swp dk (a + i) (b + i)) ((wr.drew.setCells blk (off + (a + i) * k) (enc dk[b + i]!)).setCells blk (off + (b + i) * k) (enc dk[a + i]!))) := S1.out.swapped R (a + i) (b + i) (by omega) (by omega)
      have l1a := S1.out.ld1 R (by omega) P (a + i) (by omega)
      have l1b := S1.out.ld1 R (by omega) P (b + i) (by omega)
      have s1a := S1.out.st1 R (by omega) P (a + i) (by omega) dk[b + i]!
      have s1b := S1.out.st2 R (by omega) P (a + i) (b + i) (by omega) (by omega) dk[b + i]! dk[a + i]!
      have n1a : (enc dk[a + i]!).length = k := R.hk _
      have n1b : (enc dk[b + i]!).length = k := R.hk _
      generalize enc dk[a + i]! = cI1 at S2 l1a s1b n1a
      generalize enc dk[b + i]! = cJ1 at S2 l1b s1a s1b n1b
      clear S1
      go_wp2_with fail
      go_big_region_o
      clear l1a l1b s1a s1b
      generalize (wr.drew.setCells blk (off + (a + i) * k) cJ1).setCells blk (off + (b + i) * k) cI1 = w2 at S2 ⊢
      go_wp2
      go_roundg (n - (i + 1))
      case measure => omega
      case rel =>
        exact ⟨i + 1, swp dk (a + i) (b + i), by go_num, by omega, Nat.le_refl _, by rw [size_swp]; exact hds, S2, permIn_trans _ _ _ _ _ HP.out (swp_permIn _ _ _ _ _ (by omega) (by omega) (by omega) (by omega) (by omega)), fun x => swpN_step (by omega) (by omega) hds HX.out x⟩
    · have hltz : ¬ (i : Int) < (n : Int) := by omega
      obtain rfl : i = n := by omega
      go_wp2
      go_end0
      exact ⟨rfl, dk, S1.out, HP.out, HX.out⟩
set_option maxHeartbeats 4000000 in
set_option maxRecDepth 1000000 in
theorem rotate_calls (L : StP P k) (enc : α → List Value) (g : Nat) (cb : Array Value) (blk off cap a m b : Nat) (d0 d : Array α) (w0 w : World)
    (R : RowK enc k w0 blk off d0) (hs : d0.size = d.size) (S : SWK enc k w0 blk off d w) (ham : a < m) (hmb : m < b) (hb : b ≤ d.size) (hsz : d.size < 4611686018427387904) :
    Calls P 139 #[.slice (some ⟨blk, off, none⟩) d.size cap, .int .i64 a, .int .i64 m, .int .i64 b, .func (.func g) #[] cb] w fun e w' =>
      e = .returned (.tuple #[]) ∧ ∃ d', SWK enc k w0 blk off d' w' ∧ PermIn a b d d' ∧ ∀ x, d'[x]! = rotN a m b (fun x => d[x]!) x := by
  have mixed := L.mixed; have t0 := L.t0; have a0 := L.a0; have z0 := L.z0; have v0 := L.v0; have t3 := L.t3; have a3 := L.a3; have z3 := L.z3; have v3 := L.v3; have t4 := L.t4; have a4 := L.a4; have z4 := L.z4; have v4 := L.v4
  have t80 := L.t80; have a80 := L.a80; have z80 := L.z80; have v80 := L.v80; have t87 := L.t87; have a87 := L.a87; have z87 := L.z87; have v87 := L.v87; have aE := L.aE; have zE := L.zE; have t114 := L.t114; have a114 := L.a114; have z114 := L.z114; have v114 := L.v114
  have S0 : Aside (SWK enc k w0 blk off d w) := S
  have FG := L.f_rot
  have e147 := L.e_swap
  have ci : ((m - a : Nat) : Int) = (m : Int) - (a : Int) := by omega
  have cj : ((b - m : Nat) : Int) = (b : Int) - (m : Int) := by omega
  clear S
  go_enter FG, Tryz.ntmps139
  go_wp2
  go_loopg [10, 11] (b - a) (fun kx s10 s11 wr => ∃ (i j : Nat) (dk : Array α), s10 = .int .i64 i ∧ s11 = .int .i64 j ∧ 0 < i ∧ 0 < j ∧ i ≤ m - a ∧ j ≤ b - m ∧ i + j ≤ kx ∧ dk.size = d.size ∧ Aside (SWK enc k w0 blk off dk wr) ∧ Hid (PermIn a b d dk) ∧ Hid (∀ x, rotN (m - i) m (m + j) (fun x => dk[x]!) x = rotN a m b (fun x => d[x]!) x))
  case atStart => exact ⟨m - a, b - m, d, by rw [ci], by rw [cj], by omega, by omega, Nat.le_refl _, Nat.le_refl _, by omega, rfl, S0, permIn_refl _ _ _, fun x => by rw [show m - (m - a) = a by omega, show m + (b - m) = b by omega]⟩
  case round =>
    clear S0 ci cj
    obtain ⟨i, j, dk, rfl, rfl, hi0, hj0, him, hjm, hkx, hds, S1, HP, HX⟩ := hrel
    have c1 : ((m - i : Nat) : Int) = (m : Int) - (i : Int) := by omega
    by_cases hij : i = j
    · subst hij
      have hij2 : ((i : Int) != (i : Int)) = false := by simp
      have hcall := swapRange_calls L enc g cb blk off cap (m - i) m i d0 dk w0 wr R (by omega) S1.out (by omega) (by omega) (by omega)
      rw [hds, c1] at hcall
      have X3 : Hid (∀ d2 : Array α, (∀ x, d2[x]! = swpN (m - i) m i (fun x => dk[x]!) x) → ∀ x, d2[x]! = rotN a m b (fun x => d[x]!) x) := fun d2 h x => by rw [h, rotN_swap i m _ (by omega)]; exact HX.out x
      have P3 : Hid (∀ d2 : Array α, PermIn (m - i) (m + i) dk d2 → PermIn a b d d2) := fun d2 h => permIn_trans _ _ _ _ _ HP.out (permIn_mono _ _ _ _ _ _ (by omega) (by omega) (by omega) h)
      clear S1 HX HP
      go_wp2_with (go_at_fn 147; refine hcall.mono ?_; rintro e w1 ⟨rfl, d2, S2, P2, X2⟩)
      go_end0
      exact ⟨rfl, d2, S2, P3.out _ P2, X3.out _ X2⟩
    · have hij1 : ((i : Int) != (j : Int)) = true := bne_iff_ne.2 (by omega)
      have hij2 : ¬ (i : Int) = (j : Int) := by omega
      by_cases hgt : j < i
      · have hg1 : (j : Int) < (i : Int) := by omega
        have hg2 : decide ((i : Int) > (j : Int)) = true := decide_eq_true hg1
        have hcall := swapRange_calls L enc g cb blk off cap (m - i) m j d0 dk w0 wr R (by omega) S1.out (by omega) (by omega) (by omega)
        rw [hds, c1] at hcall
        have X3 : Hid (∀ d2 : Array α, (∀ x, d2[x]! = swpN (m - i) m j (fun x => dk[x]!) x) → ∀ x, rotN (m - (i - j)) m (m + j) (fun x => d2[x]!) x = rotN a m b (fun x => d[x]!) x) := fun d2 h x => by rw [rotN_left i j m (fun x => dk[x]!) _ (by omega) hgt h]; exact HX.out x
        have P3 : Hid (∀ d2 : Array α, PermIn (m - i) (m + j) dk d2 → d2.size = d.size ∧ PermIn a b d d2) := fun d2 h => ⟨h.1.trans hds, permIn_trans _ _ _ _ _ HP.out (permIn_mono _ _ _ _ _ _ (by omega) (by omega) (by omega) h)⟩
        clear S1 HX HP
        go_wp2_with fail
        go_at_fn 147
        refine hcall.mono ?_
        rintro e w1 ⟨rfl, d2, S2, P2, X2⟩
        have S2 : Aside (SWK enc k w0 blk off d2 w1) := S2
        have P4 := P3.out _ P2
        have X4 : Hid _ := X3.out _ X2
        clear P2 X2
        go_wp2
        go_roundg (i - j + j)
        case measure => omega
        case rel => exact ⟨i - j, j, d2, by rw [show ((i - j : Nat) : Int) = (i : Int) - (j : Int) by omega], rfl, by omega, hj0, by omega, hjm, Nat.le_refl _, P4.1, S2, P4.2, X4⟩
      · have hg1 : ¬ (j : Int) < (i : Int) := by omega
        have hg2 : decide ((i : Int) > (j : Int)) = false := decide_eq_false hg1
        have hcall := swapRange_calls L enc g cb blk off cap (m - i) (m + j - i) i d0 dk w0 wr R (by omega) S1.out (by omega) (by omega) (by omega)
        rw [hds, c1, show ((m + j - i : Nat) : Int) = (m : Int) + (j : Int) - (i : Int) by omega] at hcall
        have X3 : Hid (∀ d2 : Array α, (∀ x, d2[x]! = swpN (m - i) (m + j - i) i (fun x => dk[x]!) x) → ∀ x, rotN (m - i) m (m + (j - i)) (fun x => d2[x]!) x = rotN a m b (fun x => d[x]!) x) := fun d2 h x => by rw [rotN_right i j m (fun x => dk[x]!) _ (by omega) (by omega) h]; exact HX.out x
        have P3 : Hid (∀ d2 : Array α, PermIn (m - i) (m + j - i + i) dk d2 → d2.size = d.size ∧ PermIn a b d d2) := fun d2 h => ⟨h.1.trans hds, permIn_trans _ _ _ _ _ HP.out (permIn_mono _ _ _ _ _ _ (by omega) (by omega) (by omega) h)⟩
        clear S1 HX HP
        go_wp2_with (go_at_fn 147; refine hcall.mono ?_; rintro e w1 ⟨rfl, d2, S2, P2, X2⟩; have S2 : Aside (SWK enc k w0 blk off d2 w1) := S2; have P4 := P3.out _ P2; have X4 : Hid _ := X3.out _ X2; clear P2 X2)
        go_roundg (i + (j - i))
        case measure => omega
        case rel => exact ⟨i, j - i, d2, rfl, by rw [show ((j - i : Nat) : Int) = (j : Int) - (i : Int) by omega], hi0, by omega, him, by omega, Nat.le_refl _, P4.1, S2, P4.2, X4⟩
end Go.Proofs.YtoiipdknamgcmaaGreatDoor

/- slices.SortStableFunc at pairs: two sorted rows merged, where one of them has one member alone. -/
set_option linter.unusedVariables false
set_option linter.unusedSimpArgs false
namespace Go.Proofs.YtoiipdknamgcmaaGreatDoor
open Go.Shelf Go.RowKit Go.Lib Go.Sort
variable {P : Program} {k : Nat} {α : Type} [Inhabited α]
def SymSaid (P : Program) (enc : α → List Value) (cf : α → α → Int) (k : Nat) (g : Nat) (cb : Array Value) (blk off cap : Nat) (w0 : World) (a m b : Nat) (d : Array α) (w : World) : Prop :=
  Calls P 122 #[.slice (some ⟨blk, off, none⟩) d.size cap, .int .i64 a, .int .i64 m, .int .i64 b, .func (.func g) #[] cb] w fun e w' =>
    e = .returned (.tuple #[]) ∧ ∃ d', SWK enc k w0 blk off d' w' ∧ PermIn a b d d' ∧ SortedIn (ltOf cf) a b d'
set_option maxHeartbeats 4000000 in
set_option maxRecDepth 1000000 in
theorem sym_one (L : StP P k) (enc : α → List Value) (cf : α → α → Int) (g : Nat) (cb : Array Value) (blk off cap a m b : Nat) (d0 d : Array α) (w0 w : World)
    (eg : ∀ args w, (callFunc g args).run P w = .ok (.enter g args) w) (hcmp : CmpLays P g cb enc k cf blk off d0.size w0) (SO : SWO (ltOf cf)) (R : RowK enc k w0 blk off d0) (hs : d0.size = d.size) (S : SWK enc k w0 blk off d w)
    (ham : a < m) (hmb : m < b) (hb : b ≤ d.size) (hsz : d.size < 4611686018427387904) (hl : SortedIn (ltOf cf) a m d) (hr : SortedIn (ltOf cf) m b d) (h1' : m = a + 1) :
    SymSaid P enc cf k g cb blk off cap w0 a m b d w := by
  have mixed := L.mixed; have t0 := L.t0; have a0 := L.a0; have z0 := L.z0; have v0 := L.v0; have t3 := L.t3; have a3 := L.a3; have z3 := L.z3; have v3 := L.v3; have t4 := L.t4; have a4 := L.a4; have z4 := L.z4; have v4 := L.v4
  have t80 := L.t80; have a80 := L.a80; have z80 := L.z80; have v80 := L.v80; have t87 := L.t87; have a87 := L.a87; have z87 := L.z87; have v87 := L.v87; have aE := L.aE; have zE := L.zE; have t114 := L.t114; have a114 := L.a114; have z114 := L.z114; have v114 := L.v114
  have S0 : Aside (SWK enc k w0 blk off d w) := S
  have FG := L.f_sym
  have HC : Aside _ := hcmp
  have HL : Hid _ := hl
  have HR : Hid _ := hr
  have hm1 : (m : Int) - (a : Int) = 1 := by omega
  have h1 : Hid _ := h1'
  have mo := fun (i : Nat) (d' : Array α) => merged_one' (lt := ltOf cf) (a := a) (i := i) (b := b) (d := d) (d' := d') SO
  have MO : Hid _ := mo
  clear S hcmp hl hr mo h1'
  unfold SymSaid
  go_enter FG, Tryz.ntmps122
  go_wp2
  go_loopg [10, 11] (b - m) (fun kx s10 s11 wr => ∃ (i j : Nat), s10 = .int .i64 i ∧ s11 = .int .i64 j ∧ m ≤ i ∧ i ≤ j ∧ j ≤ b ∧ j - i ≤ kx ∧ Aside (SWK enc k w0 blk off d wr) ∧ Hid (m < i → ltOf cf d[i - 1]! d[a]! = true) ∧ Hid (j < b → ltOf cf d[j]! d[a]! = false))
  case atStart => exact ⟨m, b, rfl, rfl, Nat.le_refl _, by omega, Nat.le_refl _, Nat.le_refl _, S0, fun h => absurd h (Nat.lt_irrefl _), fun h => absurd h (Nat.lt_irrefl _)⟩
  case round =>
    clear S0
    obtain ⟨i, j, rfl, rfl, hmi, hij, hjb, hkx, S1, I1, I2⟩ := hrel
    by_cases hlt : i < j
    · have hltz : (i : Int) < (j : Int) := by omega
      obtain ⟨h, hh⟩ : ∃ h : Nat, (i + j) / 2 = h := ⟨_, rfl⟩
      have ehz : ((i : Int) + (j : Int)) / 2 = (h : Int) := by omega
      have hih : i ≤ h := by omega
      have hhj : h < j := by omega
      clear hh
      go_wp2_with fail
      cases hL : ltOf cf d[h]! d[a]! with
      | true =>
        have ea1 : ((h : Int)).toNat = h := by omega
        have pa1 : (0 : Int) ≤ (h : Int) := by omega
        have ba1 : (h : Int) < (d.size : Int) := by omega
        have ra1 : IntKind.i64.wrap ((h : Int)) = (h : Int) := by rw [IntKind.wrap_i64]; omega
        have ec1 : ((a : Int)).toNat = a := by omega
        have pc1 : (0 : Int) ≤ (a : Int) := by omega
        have bc1 : (a : Int) < (d.size : Int) := by omega
        have rc1 : IntKind.i64.wrap ((a : Int)) = (a : Int) := by rw [IntKind.wrap_i64]; omega
        obtain ⟨x1, hx1⟩ : ∃ x, x = d[h]! := ⟨_, rfl⟩
        obtain ⟨y1, hy1⟩ : ∃ x, x = d[a]! := ⟨_, rfl⟩
        have l1a := S1.out.ld R (by omega) P (h) (by omega)
        have l1b := S1.out.ld R (by omega) P (a) (by omega)
        rw [← hx1] at l1a
        rw [← hy1] at l1b
        have hc1 := S1.out.cmp HC.out (by omega) x1 y1
        have hv1 : cf x1 y1 < 0 := by rw [hx1, hy1]; exact of_decide_eq_true hL
        have hd1 : decide (cf x1 y1 < 0) = true := decide_eq_true hv1
        clear hx1 hy1
        go_wp2_with fail
        go_quiet_grown (first | (go_at_fn g; refine Calls.grown_of (hc1 _ _)))
        have S2 : Aside (SWK enc k w0 blk off d (grow (wr.drewN nq) osq)) := S1.out.grown nq osq
        clear l1a l1b hc1 S1
        generalize grow (wr.drewN nq) osq = w2 at S2 ⊢
        clear nq osq
        go_wp2_with fail
        go_roundg (j - (h + 1))
        case measure => omega
        case rel => exact ⟨h + 1, j, by go_num, rfl, by omega, by omega, hjb, Nat.le_refl _, S2, fun _ => hL, I2⟩
      | false =>
        have ea2 : ((h : Int)).toNat = h := by omega
        have pa2 : (0 : Int) ≤ (h : Int) := by omega
        have ba2 : (h : Int) < (d.size : Int) := by omega
        have ra2 : IntKind.i64.wrap ((h : Int)) = (h : Int) := by rw [IntKind.wrap_i64]; omega
        have ec2 : ((a : Int)).toNat = a := by omega
        have pc2 : (0 : Int) ≤ (a : Int) := by omega
        have bc2 : (a : Int) < (d.size : Int) := by omega
        have rc2 : IntKind.i64.wrap ((a : Int)) = (a : Int) := by rw [IntKind.wrap_i64]; omega
        obtain ⟨x2, hx2⟩ : ∃ x, x = d[h]! := ⟨_, rfl⟩
        obtain ⟨y2, hy2⟩ : ∃ x, x = d[a]! := ⟨_, rfl⟩
        have l2a := S1.out.ld R (by omega) P (h) (by omega)
        have l2b := S1.out.ld R (by omega) P (a) (by omega)
        rw [← hx2] at l2a
        rw [← hy2] at l2b
        have hc2 := S1.out.cmp HC.out (by omega) x2 y2
        have hv2 : ¬ cf x2 y2 < 0 := by rw [hx2, hy2]; exact of_decide_eq_false hL
        have hd2 : decide (cf x2 y2 < 0) = false := decide_eq_false hv2
        clear hx2 hy2
        go_wp2_with fail
        go_quiet_grown (first | (go_at_fn g; refine Calls.grown_of (hc2 _ _)))
        have S2 : Aside (SWK enc k w0 blk off d (grow (wr.drewN nq) osq)) := S1.out.grown nq osq
        clear l2a l2b hc2 S1
        generalize grow (wr.drewN nq) osq = w2 at S2 ⊢
        clear nq osq
        go_wp2_with fail
        go_roundg (h - i)
        case measure => omega
        case rel => exact ⟨i, h, rfl, rfl, hmi, hih, by omega, Nat.le_refl _, S2, I1, fun _ => hL⟩
    · obtain rfl : j = i := by omega
      clear hlt
      have D : Hid (∀ d' : Array α, (∀ x, d'[x]! = rotN a (a + 1) j (fun x => d[x]!) x) → SortedIn (ltOf cf) a b d') := fun d' hd => MO.out j d' (by have := h1.out; omega) hjb (h1.out ▸ HR.out) (fun h => I1.out (by have := h1.out; omega)) (fun h => I2.out h) hd
      clear MO HL HR I1 I2
      go_wp2
      go_loopg [13] (j - 1 - a) (fun kx s13 wr2 => ∃ (i : Nat) (dk : Array α), s13 = .int .i64 i ∧ a ≤ i ∧ i ≤ j - 1 ∧ j - 1 - i ≤ kx ∧ dk.size = d.size ∧ Aside (SWK enc k w0 blk off dk wr2) ∧ Hid (PermIn a b d dk) ∧ Hid (∀ x, dk[x]! = rotN a (a + 1) (i + 1) (fun x => d[x]!) x))
      case atStart => exact ⟨a, d, rfl, Nat.le_refl _, by omega, Nat.le_refl _, rfl, S1, permIn_refl _ _ _, fun x => (rotN_end _ _ _ _).symm⟩
      case round =>
        clear S1
        obtain ⟨i, dk, rfl, hai, hij2, hkx2, hds, S1, HP, HX⟩ := hrel
        by_cases hlt : i < j - 1
        · have hltz : (i : Int) < (j : Int) - 1 := by omega
          have hltd : decide ((i : Int) < (j : Int) - 1) = true := decide_eq_true hltz
          go_wp2_with fail
          have ea3 : ((i : Int)).toNat = i := by omega
          have pa3 : (0 : Int) ≤ (i : Int) := by omega
          have ba3 : (i : Int) < (d.size : Int) := by omega
          have ra3 : IntKind.i64.wrap ((i : Int)) = (i : Int) := by rw [IntKind.wrap_i64]; omega
          have ec3 : ((i : Int) + 1).toNat = i + 1 := by omega
          have pc3 : (0 : Int) ≤ (i : Int) + 1 := by omega
          have bc3 : (i : Int) + 1 < (d.size : Int) := by omega
          have rc3 : IntKind.i64.wrap ((i : Int) + 1) = (i : Int) + 1 := by rw [IntKind.wrap_i64]; omega
          have S2 : Aside (SWK enc k w0 blk off (swp dk (i) (i + 1)) ((wr.drew.setCells blk (off + (i) * k) (enc dk[i + 1]!)).setCells blk (off + (i + 1) * k) (enc dk[i]!))) := S1.out.swapped R (i) (i + 1) (by omega) (by omega)
          have l3a := S1.out.ld1 R (by omega) P (i) (by omega)
          have l3b := S1.out.ld1 R (by omega) P (i + 1) (by omega)
          have s3a := S1.out.st1 R (by omega) P (i) (by omega) dk[i + 1]!
          have s3b := S1.out.st2 R (by omega) P (i) (i + 1) (by omega) (by omega) dk[i + 1]! dk[i]!
          have n3a : (enc dk[i]!).length = k := R.hk _
          have n3b : (enc dk[i + 1]!).length = k := R.hk _
          generalize enc dk[i]! = cI3 at S2 l3a s3b n3a
          generalize enc dk[i + 1]! = cJ3 at S2 l3b s3a s3b n3b
          clear S1
          go_wp2_with fail
          go_big_region_o
          clear l3a l3b s3a s3b
          generalize (wr.drew.setCells blk (off + (i) * k) cJ3).setCells blk (off + (i + 1) * k) cI3 = w2 at S2 ⊢
          go_wp2
          go_roundg (j - 1 - (i + 1))
          case measure => omega
          case rel =>
            exact ⟨i + 1, swp dk i (i + 1), by go_num, by omega, by omega, Nat.le_refl _, by rw [size_swp]; exact hds, S2, permIn_trans _ _ _ _ _ HP.out (swp_permIn _ _ _ _ _ (by omega) (by omega) (by omega) (by omega) (by omega)), fun x => rotN_up hai (by omega) hds HX.out x⟩
        · have hltz : ¬ (i : Int) < (j : Int) - 1 := by omega
          have hltd : decide ((i : Int) < (j : Int) - 1) = false := decide_eq_false hltz
          have e1 : i + 1 = j := by omega
          go_wp2
          (try simp only [Exit.inBlock, Exit.then]); refine bodyPost_ret (results_none rfl _ _ _) rfl ?_
          exact ⟨rfl, dk, S1.out, HP.out, D.out dk (by rw [← e1]; exact HX.out)⟩
set_option maxHeartbeats 4000000 in
set_option maxRecDepth 1000000 in
theorem sym_last (L : StP P k) (enc : α → List Value) (cf : α → α → Int) (g : Nat) (cb : Array Value) (blk off cap a m b : Nat) (d0 d : Array α) (w0 w : World)
    (eg : ∀ args w, (callFunc g args).run P w = .ok (.enter g args) w) (hcmp : CmpLays P g cb enc k cf blk off d0.size w0) (SO : SWO (ltOf cf)) (R : RowK enc k w0 blk off d0) (hs : d0.size = d.size) (S : SWK enc k w0 blk off d w)
    (ham : a < m) (hmb : m < b) (hb : b ≤ d.size) (hsz : d.size < 4611686018427387904) (hl : SortedIn (ltOf cf) a m d) (hr : SortedIn (ltOf cf) m b d) (h1' : ¬ m = a + 1) (h2' : b = m + 1) :
    SymSaid P enc cf k g cb blk off cap w0 a m b d w := by
  have mixed := L.mixed; have t0 := L.t0; have a0 := L.a0; have z0 := L.z0; have v0 := L.v0; have t3 := L.t3; have a3 := L.a3; have z3 := L.z3; have v3 := L.v3; have t4 := L.t4; have a4 := L.a4; have z4 := L.z4; have v4 := L.v4
  have t80 := L.t80; have a80 := L.a80; have z80 := L.z80; have v80 := L.v80; have t87 := L.t87; have a87 := L.a87; have z87 := L.z87; have v87 := L.v87; have aE := L.aE; have zE := L.zE; have t114 := L.t114; have a114 := L.a114; have z114 := L.z114; have v114 := L.v114
  have S0 : Aside (SWK enc k w0 blk off d w) := S
  have FG := L.f_sym
  have HC : Aside _ := hcmp
  have HL : Hid _ := hl
  have HR : Hid _ := hr
  have hm1 : ¬ (m : Int) - (a : Int) = 1 := by omega
  have hm2 : ((m : Int) - (a : Int) == 1) = false := beq_eq_false_iff_ne.2 hm1
  have hb1 : (b : Int) - (m : Int) = 1 := by omega
  have h2 : Hid _ := h2'
  have mo := fun (i : Nat) (d' : Array α) => merged_last' (lt := ltOf cf) (a := a) (i := i) (m := m) (d := d) (d' := d') SO
  have MO : Hid _ := mo
  clear S hcmp hl hr mo h1' h2'
  unfold SymSaid
  go_enter FG, Tryz.ntmps122
  go_wp2
  go_loopg [14, 15] (m - a) (fun kx s10 s11 wr => ∃ (i j : Nat), s10 = .int .i64 i ∧ s11 = .int .i64 j ∧ a ≤ i ∧ i ≤ j ∧ j ≤ m ∧ j - i ≤ kx ∧ Aside (SWK enc k w0 blk off d wr) ∧ Hid (a < i → ltOf cf d[m]! d[i - 1]! = false) ∧ Hid (j < m → ltOf cf d[m]! d[j]! = true))
  case atStart => exact ⟨a, m, rfl, rfl, Nat.le_refl _, by omega, Nat.le_refl _, Nat.le_refl _, S0, fun h => absurd h (Nat.lt_irrefl _), fun h => absurd h (Nat.lt_irrefl _)⟩
  case round =>
    clear S0
    obtain ⟨i, j, rfl, rfl, hmi, hij, hjb, hkx, S1, I1, I2⟩ := hrel
    by_cases hlt : i < j
    · have hltz : (i : Int) < (j : Int) := by omega
      obtain ⟨h, hh⟩ : ∃ h : Nat, (i + j) / 2 = h := ⟨_, rfl⟩
      have ehz : ((i : Int) + (j : Int)) / 2 = (h : Int) := by omega
      have hih : i ≤ h := by omega
      have hhj : h < j := by omega
      clear hh
      go_wp2_with fail
      cases hL : ltOf cf d[m]! d[h]! with
      | false =>
        have ea1 : ((m : Int)).toNat = m := by omega
        have pa1 : (0 : Int) ≤ (m : Int) := by omega
        have ba1 : (m : Int) < (d.size : Int) := by omega
        have ra1 : IntKind.i64.wrap ((m : Int)) = (m : Int) := by rw [IntKind.wrap_i64]; omega
        have ec1 : ((h : Int)).toNat = h := by omega
        have pc1 : (0 : Int) ≤ (h : Int) := by omega
        have bc1 : (h : Int) < (d.size : Int) := by omega
        have rc1 : IntKind.i64.wrap ((h : Int)) = (h : Int) := by rw [IntKind.wrap_i64]; omega
        obtain ⟨x1, hx1⟩ : ∃ x, x = d[m]! := ⟨_, rfl⟩
        obtain ⟨y1, hy1⟩ : ∃ x, x = d[h]! := ⟨_, rfl⟩
        have l1a := S1.out.ld R (by omega) P (m) (by omega)
        have l1b := S1.out.ld R (by omega) P (h) (by omega)
        rw [← hx1] at l1a
        rw [← hy1] at l1b
        have hc1 := S1.out.cmp HC.out (by omega) x1 y1
        have hv1 : ¬ cf x1 y1 < 0 := by rw [hx1, hy1]; exact of_decide_eq_false hL
        have hd1 : decide (cf x1 y1 < 0) = false := decide_eq_false hv1
        clear hx1 hy1
        go_wp2_with fail
        go_quiet_grown (first | (go_at_fn g; refine Calls.grown_of (hc1 _ _)))
        have S2 : Aside (SWK enc k w0 blk off d (grow (wr.drewN nq) osq)) := S1.out.grown nq osq
        clear l1a l1b hc1 S1
        generalize grow (wr.drewN nq) osq = w2 at S2 ⊢
        clear nq osq
        go_wp2_with fail
        go_roundg (j - (h + 1))
        case measure => omega
        case rel => exact ⟨h + 1, j, by go_num, rfl, by omega, by omega, hjb, Nat.le_refl _, S2, fun _ => hL, I2⟩
      | true =>
        have ea2 : ((m : Int)).toNat = m := by omega
        have pa2 : (0 : Int) ≤ (m : Int) := by omega
        have ba2 : (m : Int) < (d.size : Int) := by omega
        have ra2 : IntKind.i64.wrap ((m : Int)) = (m : Int) := by rw [IntKind.wrap_i64]; omega
        have ec2 : ((h : Int)).toNat = h := by omega
        have pc2 : (0 : Int) ≤ (h : Int) := by omega
        have bc2 : (h : Int) < (d.size : Int) := by omega
        have rc2 : IntKind.i64.wrap ((h : Int)) = (h : Int) := by rw [IntKind.wrap_i64]; omega
        obtain ⟨x2, hx2⟩ : ∃ x, x = d[m]! := ⟨_, rfl⟩
        obtain ⟨y2, hy2⟩ : ∃ x, x = d[h]! := ⟨_, rfl⟩
        have l2a := S1.out.ld R (by omega) P (m) (by omega)
        have l2b := S1.out.ld R (by omega) P (h) (by omega)
        rw [← hx2] at l2a
        rw [← hy2] at l2b
        have hc2 := S1.out.cmp HC.out (by omega) x2 y2
        have hv2 : cf x2 y2 < 0 := by rw [hx2, hy2]; exact of_decide_eq_true hL
        have hd2 : decide (cf x2 y2 < 0) = true := decide_eq_true hv2
        clear hx2 hy2
        go_wp2_with fail
        go_quiet_grown (first | (go_at_fn g; refine Calls.grown_of (hc2 _ _)))
        have S2 : Aside (SWK enc k w0 blk off d (grow (wr.drewN nq) osq)) := S1.out.grown nq osq
        clear l2a l2b hc2 S1
        generalize grow (wr.drewN nq) osq = w2 at S2 ⊢
        clear nq osq
        go_wp2_with fail
        go_roundg (h - i)
        case measure => omega
        case rel => exact ⟨i, h, rfl, rfl, hmi, hih, by omega, Nat.le_refl _, S2, I1, fun _ => hL⟩
    · obtain rfl : j = i := by omega
      clear hlt
      have D : Hid (∀ d' : Array α, (∀ x, d'[x]! = rotN j m (m + 1) (fun x => d[x]!) x) → SortedIn (ltOf cf) a b d') := fun d' hd => h2.out ▸ MO.out j d' (by omega) hjb HL.out (fun h => I1.out (by omega)) (fun h => I2.out h) hd
      clear MO HL HR I1 I2
      go_wp2
      go_loopg [17] (m - j) (fun kx s13 wr2 => ∃ (i : Nat) (dk : Array α), s13 = .int .i64 i ∧ j ≤ i ∧ i ≤ m ∧ i - j ≤ kx ∧ dk.size = d.size ∧ Aside (SWK enc k w0 blk off dk wr2) ∧ Hid (PermIn a b d dk) ∧ Hid (∀ x, dk[x]! = rotN i m (m + 1) (fun x => d[x]!) x))
      case atStart => exact ⟨m, d, rfl, by omega, Nat.le_refl _, Nat.le_refl _, rfl, S1, permIn_refl _ _ _, fun x => (rotN_none _ _ _ _).symm⟩
      case round =>
        clear S1
        obtain ⟨i, dk, rfl, hai, hij2, hkx2, hds, S1, HP, HX⟩ := hrel
        by_cases hlt : j < i
        · have hltz : (j : Int) < (i : Int) := by omega
          have hltd : decide ((i : Int) > (j : Int)) = true := decide_eq_true hltz
          go_wp2_with fail
          have ea3 : ((i : Int)).toNat = i := by omega
          have pa3 : (0 : Int) ≤ (i : Int) := by omega
          have ba3 : (i : Int) < (d.size : Int) := by omega
          have ra3 : IntKind.i64.wrap ((i : Int)) = (i : Int) := by rw [IntKind.wrap_i64]; omega
          have ec3 : ((i : Int) - 1).toNat = i - 1 := by omega
          have pc3 : (0 : Int) ≤ (i : Int) - 1 := by omega
          have bc3 : (i : Int) - 1 < (d.size : Int) := by omega
          have rc3 : IntKind.i64.wrap ((i : Int) - 1) = (i : Int) - 1 := by rw [IntKind.wrap_i64]; omega
          have S2 : Aside (SWK enc k w0 blk off (swp dk (i) (i - 1)) ((wr.drew.setCells blk (off + (i) * k) (enc dk[i - 1]!)).setCells blk (off + (i - 1) * k) (enc dk[i]!))) := S1.out.swapped R (i) (i - 1) (by omega) (by omega)
          have l3a := S1.out.ld1 R (by omega) P (i) (by omega)
          have l3b := S1.out.ld1 R (by omega) P (i - 1) (by omega)
          have s3a := S1.out.st1 R (by omega) P (i) (by omega) dk[i - 1]!
          have s3b := S1.out.st2 R (by omega) P (i) (i - 1) (by omega) (by omega) dk[i - 1]! dk[i]!
          have n3a : (enc dk[i]!).length = k := R.hk _
          have n3b : (enc dk[i - 1]!).length = k := R.hk _
          generalize enc dk[i]! = cI3 at S2 l3a s3b n3a
          generalize enc dk[i - 1]! = cJ3 at S2 l3b s3a s3b n3b
          clear S1
          go_wp2_with fail
          go_big_region_o
          clear l3a l3b s3a s3b
          generalize (wr.drew.setCells blk (off + (i) * k) cJ3).setCells blk (off + (i - 1) * k) cI3 = w2 at S2 ⊢
          go_wp2
          go_roundg (i - 1 - j)
          case measure => omega
          case rel =>
            exact ⟨i - 1, swp dk i (i - 1), by rw [show ((i - 1 : Nat) : Int) = (i : Int) - 1 by omega], by omega, by omega, Nat.le_refl _, by rw [size_swp]; exact hds, S2, permIn_trans _ _ _ _ _ HP.out (swp_permIn _ _ _ _ _ (by omega) (by omega) (by omega) (by omega) (by omega)), fun x => rotN_down (by omega) hij2 (by omega) hds HX.out x⟩
        · have hltz : ¬ (j : Int) < (i : Int) := by omega
          have hltd : decide ((i : Int) > (j : Int)) = false := decide_eq_false hltz
          obtain rfl : i = j := by omega
          go_wp2
          (try simp only [Exit.inBlock, Exit.then]); refine bodyPost_ret (results_none rfl _ _ _) rfl ?_
          exact ⟨rfl, dk, S1.out, HP.out, D.out dk HX.out⟩
end Go.Proofs.YtoiipdknamgcmaaGreatDoor
