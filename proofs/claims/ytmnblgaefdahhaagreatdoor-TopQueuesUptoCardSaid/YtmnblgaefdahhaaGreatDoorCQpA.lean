/- The six orders of values, as plain functions. Pairing heaps, as plain data: what is taken from one is sorted. Red-black trees, as plain data: their keys, in order. -/
import Derived.Test.YtmnblgaefdahhaaGreatDoorCCmp
import Derived.Test.YtmnblgaefdahhaaGreatDoorCValF
/- The six orders of values, as plain functions. -/
set_option linter.unusedVariables false
set_option linter.unusedSimpArgs false
namespace Go.Proofs.YtmnblgaefdahhaaGreatDoor
open Go.RowKit

theorem sgn_zero {a b : Int} (h : sgn a b = 0) : a = b := by
  unfold sgn at h
  split at h
  · omega
  · split at h
    · omega
    · omega
theorem cmpB_zero {a b : ByteArray} (h : cmpB a b = 0) : a = b := by
  unfold cmpB at h
  rw [compareBytes_less] at h
  split at h
  · omega
  · split at h
    · rename_i h2
      have h3 : a.data.toList = b.data.toList := by simpa using h2
      exact ByteArray.ext (Array.toList_inj.1 h3)
    · omega
theorem bytes_none {a b : ByteArray} (h : a.size = 0) (k : b.size = 0) : a = b := by
  have h1 : a.data.size = 0 := h
  have k1 : b.data.size = 0 := k
  exact ByteArray.ext (by rw [Array.size_eq_zero_iff.1 h1, Array.size_eq_zero_iff.1 k1])
theorem plain_parts {k n : Int} {t : ByteArray} (h : plainK k n t = true) : (k ≠ 3 → t.size = 0) ∧ (k ≠ 2 → k ≠ 1 → n = 0) := by
  unfold plainK at h
  split at h
  · cases h
  · rename_i hc
    exact ⟨fun h3 => Classical.byContradiction fun h4 => hc (.inl ⟨h3, h4⟩), fun h2 h1 => Classical.byContradiction fun h4 => hc (.inr ⟨h2, h1, h4⟩)⟩
theorem form_none {k : Int} {l : List V} (h : formK k l = true) (h4 : k ≠ 4) (h5 : k ≠ 5) (h6 : k ≠ 6) : l = [] := by
  unfold formK at h
  rw [if_neg h4, if_neg h6, if_neg h5] at h
  exact List.length_eq_zero_iff.1 (by simpa using h)
mutual
theorem cmpV_zero : ∀ (x y : V), okAll x = true → okAll y = true → cmpV x y = 0 → x = y
  | .mk k n t l, .mk k' n' t' l', hx, hy, h => by
    rw [okAll, Bool.and_eq_true] at hx hy
    obtain ⟨hx1, hx2⟩ := hx
    obtain ⟨hy1, hy2⟩ := hy
    have px : plainK k n t = true ∧ formK k l = true := by
      have : (plainK k n t && formK k l) = true := hx1
      rwa [Bool.and_eq_true] at this
    have py : plainK k' n' t' = true ∧ formK k' l' = true := by
      have : (plainK k' n' t' && formK k' l') = true := hy1
      rwa [Bool.and_eq_true] at this
    rw [cmpV] at h
    by_cases hk : k = k'
    · subst hk
      rw [if_pos rfl] at h
      obtain ⟨x1, x2⟩ := plain_parts px.1
      obtain ⟨y1, y2⟩ := plain_parts py.1
      by_cases c1 : k = 1 ∨ k = 2
      · rw [if_pos c1] at h
        rw [sgn_zero h, bytes_none (x1 (by omega)) (y1 (by omega)), form_none px.2 (by omega) (by omega) (by omega), form_none py.2 (by omega) (by omega) (by omega)]
      · rw [if_neg c1] at h
        have hn : n = n' := by rw [x2 (by omega) (by omega), y2 (by omega) (by omega)]
        by_cases c3 : k = 3
        · rw [if_pos c3] at h
          rw [hn, cmpB_zero h, form_none px.2 (by omega) (by omega) (by omega), form_none py.2 (by omega) (by omega) (by omega)]
        · rw [if_neg c3] at h
          rw [hn, bytes_none (x1 c3) (y1 c3)]
          by_cases c4 : k = 4 ∨ k = 5 ∨ k = 6
          · rw [if_pos c4] at h
            rw [cmpL_zero l l' hx2 hy2 h]
          · rw [form_none px.2 (by omega) (by omega) (by omega), form_none py.2 (by omega) (by omega) (by omega)]
    · rw [if_neg hk] at h
      exact absurd (sgn_zero h) hk
theorem cmpL_zero : ∀ (a b : List V), okAlls a = true → okAlls b = true → cmpL a b = 0 → a = b
  | [], [], _, _, _ => rfl
  | [], _ :: _, _, _, h => by simp [cmpL] at h
  | _ :: _, [], _, _, h => by simp [cmpL] at h
  | x :: xs, y :: ys, ha, hb, h => by
    rw [okAlls, Bool.and_eq_true] at ha hb
    rw [cmpL_cons] at h
    by_cases hc : cmpV x y = 0
    · rw [if_pos hc] at h
      rw [cmpV_zero x y ha.1 hb.1 hc, cmpL_zero xs ys ha.2 hb.2 h]
    · rw [if_neg hc] at h
      exact absurd h hc
end
theorem right_all {x : V} (h : rightB x = true) : okAll x = true := by
  unfold rightB okIn at h
  exact (of_decide_eq_true h).1

/-- What an order of values is. -/
structure Ordr (c : V → V → Int) : Prop where
  flip : ∀ x y, c y x = - c x y
  tri : ∀ x y z, Tri (c x y) (c y z) (c x z)
  zero : ∀ x y, okAll x = true → okAll y = true → c x y = 0 → x = y
def orI (a b : Int) : Int := if a = 0 then b else a
theorem ordr_cmp : Ordr cmpV := ⟨cmpV_flip, cmpV_tri, cmpV_zero⟩
theorem ordr_back {c : V → V → Int} (h : Ordr c) : Ordr fun x y => c y x where
  flip x y := h.flip y x
  tri x y z := by
    have h1 := h.tri z y x
    unfold Tri at h1 ⊢
    intro h2 h3
    have h4 := h1 h3 h2
    exact ⟨h4.1, fun h5 => h4.2 h5.symm⟩
  zero x y hx hy e := (h.zero y x hy hx e).symm
theorem by_flip {a b p q : Int} (h : q = - p) : orI (sgn b a) q = - orI (sgn a b) p := by
  unfold orI sgn
  (repeat' split) <;> omega
theorem by_tri {a b c p q r : Int} (h : Tri p q r) : Tri (orI (sgn a b) p) (orI (sgn b c) q) (orI (sgn a c) r) := by
  unfold Tri at h ⊢
  unfold orI sgn
  (repeat' split) <;> intro h1 h2 <;> first | omega | exact h h1 h2
theorem ordr_by (m : V → Int) : Ordr fun x y => orI (sgn (m x) (m y)) (cmpV x y) where
  flip x y := by_flip (cmpV_flip x y)
  tri x y z := by_tri (cmpV_tri x y z)
  zero x y hx hy e := by
    refine cmpV_zero x y hx hy ?_
    revert e
    unfold orI
    split
    · exact id
    · intro e; omega
/-- Values of kind K by a measure, others naturally. -/
def kindBy (K : Int) (m : V → Int) (x y : V) : Int := if x.kind = K ∧ y.kind = K then orI (sgn (m x) (m y)) (cmpV x y) else cmpV x y
theorem cmpV_kinds {x y : V} (h : x.kind ≠ y.kind) : cmpV x y = sgn x.kind y.kind := by rw [cmpV_eq, if_neg h]
theorem ordr_kind (K : Int) (m : V → Int) : Ordr (kindBy K m) where
  flip x y := by
    unfold kindBy
    by_cases h : x.kind = K ∧ y.kind = K
    · rw [if_pos h, if_pos h.symm]; exact by_flip (cmpV_flip x y)
    · rw [if_neg h, if_neg (fun e => h e.symm)]; exact cmpV_flip x y
  tri x y z := by
    unfold kindBy
    have ht := cmpV_tri x y z
    by_cases hx : x.kind = K
    · by_cases hy : y.kind = K
      · by_cases hz : z.kind = K
        · rw [if_pos ⟨hx, hy⟩, if_pos ⟨hy, hz⟩, if_pos ⟨hx, hz⟩]; exact by_tri ht
        · rw [if_pos ⟨hx, hy⟩, if_neg (c := y.kind = K ∧ z.kind = K) (fun e => hz e.2), if_neg (c := x.kind = K ∧ z.kind = K) (fun e => hz e.2), cmpV_kinds (x := y) (y := z) (by rw [hy]; exact Ne.symm hz), cmpV_kinds (x := x) (y := z) (by rw [hx]; exact Ne.symm hz), hx, hy]
          have hs := sgn_ne (Ne.symm hz)
          unfold Tri
          intro h1 h2
          omega
      · rw [if_neg (fun e => hy e.2), if_neg (fun e => hy e.1)]
        by_cases hz : z.kind = K
        · rw [if_pos ⟨hx, hz⟩, cmpV_kinds (x := x) (y := y) (by rw [hx]; exact Ne.symm hy), cmpV_kinds (x := y) (y := z) (by rw [hz]; exact hy), hx, hz, sgn_flip K y.kind]
          have hs := sgn_ne hy
          have hs2 := sgn_flip K y.kind
          unfold Tri
          intro h1 h2
          omega
        · rw [if_neg (fun e => hz e.2)]; exact ht
    · rw [if_neg (fun e => hx e.1), if_neg (c := x.kind = K ∧ z.kind = K) (fun e => hx e.1)]
      by_cases hy : y.kind = K ∧ z.kind = K
      · rw [if_pos hy, cmpV_kinds (x := x) (y := y) (by rw [hy.1]; exact hx), cmpV_kinds (x := x) (y := z) (by rw [hy.2]; exact hx), hy.1, hy.2]
        have hs := sgn_ne hx
        unfold Tri
        intro h1 h2
        omega
      · rw [if_neg hy]; exact ht
  zero x y hx hy e := by
    refine cmpV_zero x y hx hy ?_
    revert e
    unfold kindBy orI
    (repeat' split) <;> intro e
    · exact e
    · omega
    · exact e
end Go.Proofs.YtmnblgaefdahhaaGreatDoor

/- Pairing heaps, as plain data: what is taken from one is sorted. -/
set_option linter.unusedVariables false
set_option linter.unusedSimpArgs false
namespace Go.Proofs.YtmnblgaefdahhaaGreatDoor
open Go.RowKit

/-- A heap: an item, and the heaps behind it. -/
inductive Hp where
  | mk (x : V) (kids : List Hp)
def Hp.x : Hp → V
  | .mk x _ => x
def Hp.kids : Hp → List Hp
  | .mk _ l => l
theorem Hp.eta (h : Hp) : h = .mk h.x h.kids := by cases h; rfl
section
variable (c : V → V → Int)
/-- Two heaps as one. -/
def meldH : Option Hp → Option Hp → Option Hp
  | none, b => b
  | some a, none => some a
  | some a, some b => if c b.x a.x < 0 then some (.mk b.x (a :: b.kids)) else some (.mk a.x (b :: a.kids))
theorem meld_some (a b : Hp) : meldH c (some a) (some b) = if c b.x a.x < 0 then some (.mk b.x (a :: b.kids)) else some (.mk a.x (b :: a.kids)) := rfl
/-- Heaps melded two by two. -/
def twoH : List Hp → List (Option Hp)
  | [] => []
  | [a] => [some a]
  | a :: b :: t => meldH c (some a) (some b) :: twoH t
def backH : List (Option Hp) → Option Hp
  | [] => none
  | h :: t => meldH c h (backH t)
def pairedH (l : List Hp) : Option Hp := backH c (twoH c l)
end
mutual
def itemsH : Hp → List V
  | .mk x l => x :: itemsHs l
def itemsHs : List Hp → List V
  | [] => []
  | h :: t => itemsH h ++ itemsHs t
end
def itemsO : Option Hp → List V
  | none => []
  | some h => itemsH h
mutual
/-- None of a heap's items stands ahead of its first one. -/
def OkH (c : V → V → Int) : Hp → Prop
  | .mk x l => (∀ y ∈ itemsHs l, 0 ≤ c y x) ∧ OkHs c l
def OkHs (c : V → V → Int) : List Hp → Prop
  | [] => True
  | h :: t => OkH c h ∧ OkHs c t
end
def OkO (c : V → V → Int) : Option Hp → Prop
  | none => True
  | some h => OkH c h
theorem itemsH_eq (h : Hp) : itemsH h = h.x :: itemsHs h.kids := by cases h; rw [itemsH]; rfl
theorem okH_eq (c : V → V → Int) (h : Hp) : OkH c h ↔ (∀ y ∈ itemsHs h.kids, 0 ≤ c y h.x) ∧ OkHs c h.kids := by cases h; rw [OkH]; rfl
theorem okH_all {c : V → V → Int} (hc : Ordr c) {h : Hp} (ho : OkH c h) : ∀ y ∈ itemsH h, 0 ≤ c y h.x := by
  intro y hy
  rw [itemsH_eq] at hy
  rcases List.mem_cons.1 hy with rfl | hy
  · have := hc.flip h.x h.x; omega
  · exact ((okH_eq c h).1 ho).1 y hy
theorem meld_perm (c : V → V → Int) (a b : Option Hp) : (itemsO (meldH c a b)).Perm (itemsO a ++ itemsO b) := by
  cases a with
  | none => exact .refl _
  | some a =>
    cases b with
    | none => show (itemsO (some a)).Perm (itemsO (some a) ++ []); rw [List.append_nil]
    | some b =>
      rw [meld_some]
      split
      · show (itemsH (.mk b.x (a :: b.kids))).Perm (itemsH a ++ itemsH b)
        rw [itemsH, itemsHs, itemsH_eq b]
        exact (List.perm_middle).symm
      · show (itemsH (.mk a.x (b :: a.kids))).Perm (itemsH a ++ itemsH b)
        rw [itemsH, itemsHs, itemsH_eq a, List.cons_append]
        exact (List.perm_append_comm).cons _
theorem meld_ok {c : V → V → Int} (hc : Ordr c) {a b : Option Hp} (ha : OkO c a) (hb : OkO c b) : OkO c (meldH c a b) := by
  have le_tr : ∀ x y z, 0 ≤ c x y → 0 ≤ c y z → 0 ≤ c x z := fun x y z h1 h2 => by
    have h3 := hc.tri z y x
    have f1 := hc.flip x y
    have f2 := hc.flip y z
    have f3 := hc.flip x z
    unfold Tri at h3
    omega
  cases a with
  | none => exact hb
  | some a =>
    cases b with
    | none => exact ha
    | some b =>
      have ha : OkH c a := ha
      have hb : OkH c b := hb
      rw [meld_some]
      split
      · rename_i h
        show OkH c (.mk b.x (a :: b.kids))
        rw [OkH, itemsHs, OkHs]
        refine ⟨fun y hy => ?_, ha, ((okH_eq c b).1 hb).2⟩
        rcases List.mem_append.1 hy with hy | hy
        · refine le_tr y a.x b.x (okH_all hc ha y hy) ?_
          have := hc.flip a.x b.x
          omega
        · exact ((okH_eq c b).1 hb).1 y hy
      · rename_i h
        show OkH c (.mk a.x (b :: a.kids))
        rw [OkH, itemsHs, OkHs]
        refine ⟨fun y hy => ?_, hb, ((okH_eq c a).1 ha).2⟩
        rcases List.mem_append.1 hy with hy | hy
        · exact le_tr y b.x a.x (okH_all hc hb y hy) (by omega)
        · exact ((okH_eq c a).1 ha).1 y hy
theorem two_perm (c : V → V → Int) : ∀ l : List Hp, ((twoH c l).flatMap itemsO).Perm (itemsHs l)
  | [] => .refl _
  | [a] => by show (itemsO (some a) ++ []).Perm (itemsH a ++ itemsHs []); exact .refl _
  | a :: b :: t => by
    show (itemsO (meldH c (some a) (some b)) ++ (twoH c t).flatMap itemsO).Perm (itemsH a ++ (itemsH b ++ itemsHs t))
    rw [← List.append_assoc]
    exact (meld_perm c (some a) (some b)).append (two_perm c t)
theorem back_perm (c : V → V → Int) : ∀ l : List (Option Hp), (itemsO (backH c l)).Perm (l.flatMap itemsO)
  | [] => .refl _
  | h :: t => by
    rw [backH, List.flatMap_cons]
    exact (meld_perm c h (backH c t)).trans ((List.Perm.refl _).append (back_perm c t))
theorem paired_perm (c : V → V → Int) (l : List Hp) : (itemsO (pairedH c l)).Perm (itemsHs l) := (back_perm c _).trans (two_perm c l)
theorem two_ok {c : V → V → Int} (hc : Ordr c) : ∀ l : List Hp, OkHs c l → ∀ h ∈ twoH c l, OkO c h
  | [], _, h, hh => by cases hh
  | [a], ho, h, hh => by
    rw [OkHs] at ho
    rcases List.mem_cons.1 hh with rfl | hh
    · exact ho.1
    · cases hh
  | a :: b :: t, ho, h, hh => by
    rw [OkHs, OkHs] at ho
    rcases List.mem_cons.1 hh with rfl | hh
    · exact meld_ok hc (a := some a) (b := some b) ho.1 ho.2.1
    · exact two_ok hc t ho.2.2 h hh
theorem back_ok {c : V → V → Int} (hc : Ordr c) : ∀ l : List (Option Hp), (∀ h ∈ l, OkO c h) → OkO c (backH c l)
  | [], _ => trivial
  | h :: t, ho => meld_ok hc (ho h List.mem_cons_self) (back_ok hc t fun x hx => ho x (List.mem_cons_of_mem _ hx))
theorem paired_ok {c : V → V → Int} (hc : Ordr c) {l : List Hp} (h : OkHs c l) : OkO c (pairedH c l) := back_ok hc _ (two_ok hc l h)
/-- What is taken from a heap one by one, n times at most. -/
def takenH (c : V → V → Int) : Nat → Option Hp → List V
  | 0, _ => []
  | _ + 1, none => []
  | n + 1, some h => h.x :: takenH c n (pairedH c h.kids)
def SortC (c : V → V → Int) (l : List V) : Prop := l.Pairwise fun a b => c a b ≤ 0
theorem taken_perm (c : V → V → Int) : ∀ n h, (itemsO h).length = n → (takenH c n h).Perm (itemsO h)
  | 0, h, hn => by rw [List.length_eq_zero_iff.1 hn]; exact .refl _
  | n + 1, none, hn => by simp [itemsO] at hn
  | n + 1, some h, hn => by
    have hp := paired_perm c h.kids
    have hn2 : (itemsH h).length = n + 1 := hn
    rw [itemsH_eq, List.length_cons] at hn2
    rw [takenH]
    show (h.x :: _).Perm (itemsH h)
    rw [itemsH_eq]
    exact ((taken_perm c n _ (by rw [hp.length_eq]; omega)).trans hp).cons _
theorem taken_sorted {c : V → V → Int} (hc : Ordr c) : ∀ n h, (itemsO h).length = n → OkO c h → SortC c (takenH c n h)
  | 0, h, _, _ => List.Pairwise.nil
  | n + 1, none, hn, _ => by simp [itemsO] at hn
  | n + 1, some h, hn, ho => by
    have hp := paired_perm c h.kids
    have hn2 : (itemsH h).length = n + 1 := hn
    rw [itemsH_eq, List.length_cons] at hn2
    have hk := (okH_eq c h).1 ho
    have hl : (itemsO (pairedH c h.kids)).length = n := by rw [hp.length_eq]; omega
    rw [takenH, SortC, List.pairwise_cons]
    refine ⟨fun y hy => ?_, taken_sorted hc n _ hl (paired_ok hc hk.2)⟩
    have h1 := hk.1 y (hp.mem_iff.1 ((taken_perm c n _ hl).mem_iff.1 hy))
    have h2 := hc.flip y h.x
    omega
/-- Sorted lists of the same right members are one. -/
theorem sortC_one {c : V → V → Int} (hc : Ordr c) : ∀ a b : List V, (∀ x ∈ a, okAll x = true) → a.Perm b → SortC c a → SortC c b → a = b
  | [], b, _, h, _, _ => by rw [h.nil_eq]
  | x :: a, [], _, h, _, _ => by have := h.length_eq; simp at this
  | x :: a, y :: b, hr, h, ha, hb => by
    rw [SortC, List.pairwise_cons] at ha hb
    have hxy : x = y := by
      have hx : x ∈ y :: b := h.mem_iff.1 List.mem_cons_self
      have hy : y ∈ x :: a := h.mem_iff.2 List.mem_cons_self
      rcases List.mem_cons.1 hx with e | hx
      · exact e
      rcases List.mem_cons.1 hy with e | hy
      · exact e.symm
      have h1 := ha.1 y hy
      have h2 := hb.1 x hx
      have h3 := hc.flip x y
      exact hc.zero x y (hr x List.mem_cons_self) (hr y (List.mem_cons_of_mem _ hy)) (by omega)
    subst hxy
    rw [sortC_one hc a b (fun z hz => hr z (List.mem_cons_of_mem _ hz)) h.cons_inv ha.2 hb.2]
end Go.Proofs.YtmnblgaefdahhaaGreatDoor

/- Red-black trees, as plain data: their keys, in order. -/
set_option linter.unusedVariables false
set_option linter.unusedSimpArgs false
namespace Go.Proofs.YtmnblgaefdahhaaGreatDoor
open Go.RowKit

inductive Nd where
  | nil
  | mk (red : Bool) (l r : Nd) (k v : V)
def Nd.isRed : Nd → Bool
  | .nil => false
  | .mk red _ _ _ _ => red
def Nd.left : Nd → Nd
  | .nil => .nil
  | .mk _ l _ _ _ => l
def Nd.right : Nd → Nd
  | .nil => .nil
  | .mk _ _ r _ _ => r
def Nd.key : Nd → V
  | .nil => V.zero
  | .mk _ _ _ k _ => k
def Nd.val : Nd → V
  | .nil => V.zero
  | .mk _ _ _ _ v => v
/-- A node with another colour and other trees below. -/
def Nd.like (x : Nd) (red : Bool) (l r : Nd) : Nd := .mk red l r x.key x.val
def blackN (x : Nd) : Nd := if x.isRed = true then x.like false x.left x.right else x
/-- A black node's key and value with two trees below. -/
def balN (x l r : Nd) : Nd :=
  if (l.isRed && r.isRed) = true then x.like true (l.like false l.left l.right) (r.like false r.left r.right)
  else if (l.isRed && l.left.isRed) = true then l.like true (blackN l.left) (x.like false l.right r)
  else if (l.isRed && l.right.isRed) = true then l.right.like true (l.like false l.left l.right.left) (x.like false l.right.right r)
  else if (r.isRed && r.right.isRed) = true then r.like true (x.like false l r.left) (blackN r.right)
  else if (r.isRed && r.left.isRed) = true then r.left.like true (x.like false l r.left.left) (r.like false r.left.right r.right)
  else x.like false l r
def insN (c : V → V → Int) (k v : V) : Nd → Nd
  | .nil => .mk true .nil .nil k v
  | .mk red l r k' v' =>
    if c k k' = 0 then .mk red l r k v
    else if c k k' < 0 then (if red = true then .mk true (insN c k v l) r k' v' else balN (.mk red l r k' v') (insN c k v l) r)
    else (if red = true then .mk true l (insN c k v r) k' v' else balN (.mk red l r k' v') l (insN c k v r))
def keysN : Nd → List V
  | .nil => []
  | .mk _ l r k _ => keysN l ++ k :: keysN r
theorem red_mk {x : Nd} (h : x.isRed = true) : x = .mk true x.left x.right x.key x.val := by
  cases x with
  | nil => cases h
  | mk red l r k v =>
    have : red = true := h
    subst this
    rfl
theorem keys_red {x : Nd} (h : x.isRed = true) : keysN x = keysN x.left ++ x.key :: keysN x.right := by
  have h1 := red_mk h
  generalize x.left = a at h1 ⊢
  generalize x.right = b at h1 ⊢
  generalize x.key = d at h1 ⊢
  rw [h1]
  rfl
theorem keys_like (x : Nd) (red : Bool) (l r : Nd) : keysN (x.like red l r) = keysN l ++ x.key :: keysN r := rfl
theorem keys_black (x : Nd) : keysN (blackN x) = keysN x := by
  unfold blackN
  split
  · rename_i h
    rw [keys_like, keys_red h]
  · rfl
theorem keys_bal (x l r : Nd) : keysN (balN x l r) = keysN l ++ x.key :: keysN r := by
  unfold balN
  split
  · rename_i h
    rw [Bool.and_eq_true] at h
    rw [keys_like, keys_like, keys_like, keys_red h.1, keys_red h.2]
  split
  · rename_i h
    rw [Bool.and_eq_true] at h
    rw [keys_like, keys_black, keys_like, keys_red h.1]
    simp
  split
  · rename_i h
    rw [Bool.and_eq_true] at h
    rw [keys_like, keys_like, keys_like, keys_red h.1, keys_red h.2]
    simp
  split
  · rename_i h
    rw [Bool.and_eq_true] at h
    rw [keys_like, keys_black, keys_like, keys_red h.1]
    simp
  split
  · rename_i h
    rw [Bool.and_eq_true] at h
    rw [keys_like, keys_like, keys_like, keys_red h.1, keys_red h.2]
    simp
  · rw [keys_like]
/-- A key put into keys that rise. -/
def insK (c : V → V → Int) (k : V) : List V → List V
  | [] => [k]
  | x :: t => if c k x = 0 then k :: t else if c k x < 0 then k :: x :: t else x :: insK c k t
/-- Keys that rise. -/
def RiseK (c : V → V → Int) (l : List V) : Prop := l.Pairwise fun a b => c a b < 0
section
variable {c : V → V → Int}
theorem insK_mid (hc : Ordr c) (k x : V) (B : List V) : ∀ A : List V, RiseK c (A ++ x :: B) →
    insK c k (A ++ x :: B) = if c k x = 0 then A ++ k :: B else if c k x < 0 then insK c k A ++ x :: B else A ++ x :: insK c k B
  | [], h => by
    show (if c k x = 0 then k :: B else if c k x < 0 then k :: x :: B else x :: insK c k B) = _
    (repeat' split) <;> rfl
  | a :: A, h => by
    rw [List.cons_append, RiseK, List.pairwise_cons] at h
    have ih := insK_mid hc k x B A h.2
    have hax := h.1 x (List.mem_append_right _ List.mem_cons_self)
    have hcmp : c k x = 0 ∨ 0 < c k x → 0 < c k a := fun hk => by
      have h1 := hc.tri a x k
      have f1 := hc.flip k x
      have f2 := hc.flip k a
      unfold Tri at h1
      omega
    show (if c k a = 0 then k :: (A ++ x :: B) else if c k a < 0 then k :: a :: (A ++ x :: B) else a :: insK c k (A ++ x :: B)) = _
    by_cases h0 : c k x = 0
    · have := hcmp (.inl h0)
      rw [if_neg (by omega), if_neg (by omega), ih, if_pos h0, if_pos h0]
      rfl
    · by_cases h1 : c k x < 0
      · rw [ih, if_neg h0, if_pos h1, if_neg h0, if_pos h1]
        show _ = (if c k a = 0 then k :: A else if c k a < 0 then k :: a :: A else a :: insK c k A) ++ x :: B
        (repeat' split) <;> rfl
      · have := hcmp (.inr (by omega))
        rw [if_neg (by omega), if_neg (by omega), ih, if_neg h0, if_neg h1, if_neg h0, if_neg h1]
        rfl
theorem rise_left {A B : List V} (h : RiseK c (A ++ B)) : RiseK c A := (List.pairwise_append.1 h).1
theorem rise_right {A B : List V} (h : RiseK c (A ++ B)) : RiseK c B := (List.pairwise_append.1 h).2.1
theorem keys_ins (hc : Ordr c) (k v : V) : ∀ x : Nd, RiseK c (keysN x) → keysN (insN c k v x) = insK c k (keysN x)
  | .nil, _ => rfl
  | .mk red l r k' v', h => by
    have hl : RiseK c (keysN l) := rise_left h
    have hr : RiseK c (keysN r) := by
      have := rise_right (A := keysN l) h
      rw [RiseK, List.pairwise_cons] at this
      exact this.2
    have il := keys_ins hc k v l hl
    have ir := keys_ins hc k v r hr
    rw [insN]
    show _ = insK c k (keysN l ++ k' :: keysN r)
    rw [insK_mid hc k k' (keysN r) (keysN l) h]
    split
    · rfl
    split
    · split
      · show keysN (insN c k v l) ++ k' :: keysN r = _
        rw [il]
      · rw [keys_bal, il]
        rfl
    · split
      · show keysN l ++ k' :: keysN (insN c k v r) = _
        rw [ir]
      · rw [keys_bal, ir]
        rfl
theorem insK_mem (hc : Ordr c) {k : V} (hk : okAll k = true) : ∀ l : List V, (∀ x ∈ l, okAll x = true) → ∀ y, y ∈ insK c k l ↔ y = k ∨ y ∈ l
  | [], _, y => by simp [insK]
  | x :: t, hl, y => by
    rw [insK]
    split
    · rename_i h
      have := hc.zero k x hk (hl x List.mem_cons_self) h
      subst this
      simp
    split
    · simp
    · rw [List.mem_cons, insK_mem hc hk t (fun z hz => hl z (List.mem_cons_of_mem _ hz)), List.mem_cons]
      constructor
      · rintro (h | h | h)
        · exact .inr (.inl h)
        · exact .inl h
        · exact .inr (.inr h)
      · rintro (h | h | h)
        · exact .inr (.inl h)
        · exact .inl h
        · exact .inr (.inr h)
theorem insK_rise (hc : Ordr c) {k : V} (hk : okAll k = true) : ∀ l : List V, (∀ x ∈ l, okAll x = true) → RiseK c l → RiseK c (insK c k l)
  | [], _, _ => by simp [insK, RiseK]
  | x :: t, hl, h => by
    rw [RiseK, List.pairwise_cons] at h
    rw [insK]
    split
    · rename_i h0
      have := hc.zero k x hk (hl x List.mem_cons_self) h0
      subst this
      rw [RiseK, List.pairwise_cons]
      exact h
    split
    · rename_i h0 h1
      rw [RiseK, List.pairwise_cons]
      refine ⟨fun z hz => ?_, by rw [List.pairwise_cons]; exact h⟩
      rcases List.mem_cons.1 hz with rfl | hz
      · exact h1
      · have h2 := h.1 z hz
        have h3 := hc.tri k x z
        unfold Tri at h3
        omega
    · rename_i h0 h1
      rw [RiseK, List.pairwise_cons]
      refine ⟨fun z hz => ?_, insK_rise hc hk t (fun z hz => hl z (List.mem_cons_of_mem _ hz)) h.2⟩
      rcases (insK_mem hc hk t (fun z hz => hl z (List.mem_cons_of_mem _ hz)) z).1 hz with rfl | hz
      · have := hc.flip z x; omega
      · exact h.1 z hz
/-- Rising lists of the same members are one. -/
theorem rise_one (hc : Ordr c) : ∀ a b : List V, RiseK c a → RiseK c b → (∀ x, x ∈ a ↔ x ∈ b) → a = b
  | [], [], _, _, _ => rfl
  | [], y :: b, _, _, h => absurd ((h y).2 List.mem_cons_self) (by simp)
  | x :: a, [], _, _, h => absurd ((h x).1 List.mem_cons_self) (by simp)
  | x :: a, y :: b, ha, hb, h => by
    rw [RiseK, List.pairwise_cons] at ha hb
    have irr : ∀ z, ¬ c z z < 0 := fun z hz => by have := hc.flip z z; omega
    have hxy : x = y := by
      rcases List.mem_cons.1 ((h x).1 List.mem_cons_self) with e | hx
      · exact e
      rcases List.mem_cons.1 ((h y).2 List.mem_cons_self) with e | hy
      · exact e.symm
      have h1 := ha.1 y hy
      have h2 := hb.1 x hx
      have h3 := hc.flip x y
      omega
    subst hxy
    rw [rise_one hc a b ha.2 hb.2 fun z => ?_]
    constructor
    · intro hz
      rcases List.mem_cons.1 ((h z).1 (List.mem_cons_of_mem _ hz)) with rfl | hz2
      · exact absurd (ha.1 z hz) (irr z)
      · exact hz2
    · intro hz
      rcases List.mem_cons.1 ((h z).2 (List.mem_cons_of_mem _ hz)) with rfl | hz2
      · exact absurd (hb.1 z hz) (irr z)
      · exact hz2
/-- The keys of the tree of all of a list. -/
def treeK (c : V → V → Int) (l : List V) (t : Nd) : Nd := l.foldl (fun t x => blackN (insN c x V.zero t)) t
theorem tree_keys (hc : Ordr c) : ∀ (l : List V) (t : Nd), (∀ x ∈ l, okAll x = true) → (∀ x ∈ keysN t, okAll x = true) → RiseK c (keysN t) →
    RiseK c (keysN (treeK c l t)) ∧ ∀ y, y ∈ keysN (treeK c l t) ↔ y ∈ l ∨ y ∈ keysN t
  | [], t, _, _, h => ⟨h, fun y => by simp [treeK]⟩
  | x :: l, t, hl, ht, h => by
    have hx := hl x List.mem_cons_self
    have e : keysN (blackN (insN c x V.zero t)) = insK c x (keysN t) := by rw [keys_black, keys_ins hc x V.zero t h]
    have h1 := insK_mem hc hx (keysN t) ht
    obtain ⟨h2, h3⟩ := tree_keys hc l (blackN (insN c x V.zero t)) (fun y hy => hl y (List.mem_cons_of_mem _ hy)) (fun y hy => by
      rw [e] at hy
      rcases (h1 y).1 hy with rfl | hy
      · exact hx
      · exact ht y hy) (by rw [e]; exact insK_rise hc hx _ ht h)
    refine ⟨h2, fun y => ?_⟩
    show y ∈ keysN (treeK c l (blackN (insN c x V.zero t))) ↔ _
    rw [h3 y, e, h1 y, List.mem_cons]
    constructor
    · rintro (h | h | h)
      · exact .inl (.inr h)
      · exact .inl (.inl h)
      · exact .inr h
    · rintro ((h | h) | h)
      · exact .inr (.inl h)
      · exact .inl h
      · exact .inr (.inr h)
/-- Members, each once, where the same ones stand together. -/
def onceL : List V → List V
  | [] => []
  | [x] => [x]
  | x :: y :: t => if eqV x y = true then onceL (y :: t) else x :: onceL (y :: t)
theorem once_mem : ∀ (l : List V) (z : V), z ∈ onceL l ↔ z ∈ l
  | [], z => Iff.rfl
  | [x], z => Iff.rfl
  | x :: y :: t, z => by
    rw [onceL]
    split
    · rename_i h
      have h := (eqV_iff x y).1 h
      subst h
      rw [once_mem (x :: t) z]
      simp
    · rw [List.mem_cons, once_mem (y :: t) z, List.mem_cons (b := x)]
theorem once_rise (hc : Ordr c) : ∀ l : List V, (∀ x ∈ l, okAll x = true) → SortC c l → RiseK c (onceL l)
  | [], _, _ => List.Pairwise.nil
  | [x], _, _ => by simp [onceL, RiseK]
  | x :: y :: t, ho, h => by
    have h0 := h
    rw [SortC, List.pairwise_cons] at h
    have ih := once_rise hc (y :: t) (fun z hz => ho z (List.mem_cons_of_mem _ hz)) h.2
    rw [onceL]
    split
    · exact ih
    · rename_i hne
      rw [RiseK, List.pairwise_cons]
      refine ⟨fun z hz => ?_, ih⟩
      have hz2 := (once_mem (y :: t) z).1 hz
      have h1 := h.1 y List.mem_cons_self
      have hxy : c x y ≠ 0 := fun e => hne ((eqV_iff x y).2 (hc.zero x y (ho x List.mem_cons_self) (ho y (List.mem_cons_of_mem _ List.mem_cons_self)) e))
      have h2 := h.2
      rw [List.pairwise_cons] at h2
      rcases List.mem_cons.1 hz2 with rfl | hz3
      · omega
      · have h3 := h2.1 z hz3
        have h4 := hc.tri x y z
        unfold Tri at h4
        omega
/-- A sorted set's members are those of a sorted list, each once. -/
theorem set_once (hc : Ordr c) {l s : List V} (hl : ∀ x ∈ l, okAll x = true) (hp : s.Perm l) (hs : SortC c s) : keysN (treeK c l .nil) = onceL s := by
  obtain ⟨h1, h2⟩ := tree_keys hc l .nil hl (fun x hx => by cases hx) List.Pairwise.nil
  refine rise_one hc _ _ h1 (once_rise hc s (fun x hx => hl x (hp.mem_iff.1 hx)) hs) fun x => ?_
  rw [h2 x, once_mem s x, hp.mem_iff]
  constructor
  · rintro (h | h)
    · exact h
    · cases h
  · exact .inl
end
end Go.Proofs.YtmnblgaefdahhaaGreatDoor
