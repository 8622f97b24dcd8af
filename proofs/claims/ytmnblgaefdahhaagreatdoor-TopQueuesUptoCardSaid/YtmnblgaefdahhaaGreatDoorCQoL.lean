/- order.Sort. order.Sort, whatever the order and the list. -/
import Derived.Handy
import Derived.Test.YtmnblgaefdahhaaGreatDoorCQoK
import Derived.Test.YtmnblgaefdahhaaGreatDoorCQoJ
/- order.Sort. -/
set_option linter.unusedVariables false
set_option linter.unusedSimpArgs false
namespace Go.Proofs.YtmnblgaefdahhaaGreatDoor
open Go.RowKit Go.Shelf
attribute [local go_sem] lt_succ_of

theorem insnil_calls (f : Nat) (cb : Array Value) (w : World) : Calls Tryz.prog 67 #[.slice none 0 0, .int .i64 0, .int .i64 0, .func (.func f) #[] cb] w fun e w' => e = .returned (.tuple #[]) ∧ w = w' := by
  go_enter Tryz.func67, Tryz.ntmps67
  go_wp2_with fail
  go_rounds 1
  all_goals go_end0
  all_goals exact ⟨rfl, rfl⟩
theorem stabnil_calls (f : Nat) (cb : Array Value) (w : World) : Calls Tryz.prog 46 #[.slice none 0 0, .int .i64 0, .func (.func f) #[] cb] w fun e w' => e = .returned (.tuple #[]) ∧ w = w' := by
  go_enter Tryz.func46, Tryz.ntmps46
  go_wp2_with fail
  go_rounds 1
  go_rounds 1
  go_rounds 1
  all_goals go_end0
  all_goals exact ⟨rfl, rfl⟩
theorem sortnil_calls (f : Nat) (cb : Array Value) (w : World) : Calls Tryz.prog 31 #[.slice none 0 0, .func (.func f) #[] cb] w fun e w' => e = .returned (.tuple #[]) ∧ w = w' := by
  go_enter Tryz.func31, Tryz.ntmps31
  go_wp2_with (go_at_call 46; refine (stabnil_calls _ _ _).mono ?_; rintro e w' ⟨rfl, rfl⟩)
  all_goals go_end0
  all_goals exact ⟨rfl, rfl⟩
theorem RowV.is {w : World} {g cap : Nat} {S S' : Nat → Prop} {l : List V} (h : RowV w g S l) (hs : ∀ b, S b → S' b) (hg : S' g) (hc : l.length ≤ cap) (hl : l.length ≤ 4294967296) : IsS w S' l (.slice (some ⟨g, 0, none⟩) l.length cap) := by
  obtain ⟨c, h1, h2⟩ := h
  exact ⟨_, cap, rfl, hc, hl, .inr ⟨_, rfl, CsL.lc hg (h1.keep (Keeps.weak hs)) fun j u hj => by rw [plus0, Nat.zero_add]; exact (h2 j u hj).1⟩⟩
theorem SortC.nil (c : V → V → Int) : SortC c [] := List.Pairwise.nil
theorem tabs_lt {a b : Nat} {w : World} (h : Lib.Utf8Tabs a b w) : a < w.heap.size ∧ b < w.heap.size := ⟨World.block_lt_of_cell? w _ (h.1 0 (by omega)), World.block_lt_of_cell? w _ (h.2 0 (by omega)).1⟩
set_option maxRecDepth 100000 in
theorem sorted_calls {c : V → V → Int} (hc : Ordr c) (l : List V) (hr : ∀ x ∈ l, rightB x = true) (hlen : l.length ≤ 65536) (vl vf : Value) (w : World) (S : Nat → Prop) (hl : IsS w S l vl) (lo : Nat) (hC : Cmpr c lo w vf) (hT : Lib.Utf8Tabs 1 2 w) :
    Calls Tryz.prog 16 #[vl, vf] w fun e w' => ∃ v' s, e = .returned v' ∧ IsS w' (fun _ => True) s v' ∧ s.Perm l ∧ SortC c s ∧ Below w.heap.size w w' := by
  obtain ⟨f, cb, B, rfl, eg, hB, hat⟩ := hC
  have HC := Lib.hid (clone_calls l vl w S hl)
  have HS := Lib.hid (fun (w1 : World) (hb1 : Below w.heap.size w w1) (g cap : Nat) (hg : w.heap.size ≤ g) (hg1 : g < w1.heap.size) (hR : RowV w1 g (fun b => b < w.heap.size) l) =>
    sortO_calls hc l hr g cap w1 (fun b => b < w.heap.size) (fun b (hb : b < w.heap.size) => by omega) hR hg1 hlen f cb B eg (fun b hb => Nat.lt_of_lt_of_le (hB b hb).2 hb1.size) (fun w' hk => hat w' fun b hb => (hk b hb).trans (hb1.block b (hB b hb).2)) (fun h => by have := (hB g h).2; omega) (tabs_below hT hb1)
      (by have := (tabs_lt hT).1; omega) (by have := (tabs_lt hT).2; omega))
  have HLEN := Lib.hid hlen
  clear hl hr hat hB hT eg hlen hc
  go_enter Tryz.func16, Tryz.ntmps16
  go_wp2_with (go_at_call 30; refine HC.out.mono ?_; rintro e w1 ⟨v1, rfl, hO, hb1⟩; have HO := Lib.hid hO.rowOr; obtain ⟨A, cap, rfl, hcap⟩ := hO.form; clear hO)
  rcases HO.out with ⟨rfl, hsl⟩ | ⟨g, cap1, hsl, hc1, hg0, hg1, hR⟩
  · obtain ⟨rfl, rfl⟩ : A = none ∧ cap = 0 := by injection hsl with h1 h2 h3; exact ⟨h1, h3⟩
    clear HO HS HC hsl hcap
    refine (sortnil_calls _ _ _).mono ?_
    rintro e w2 ⟨rfl, rfl⟩
    go_wp2_with fail
    go_ret
    exact ⟨_, [], rfl, ⟨none, 0, rfl, by simp, by simp, .inl rfl⟩, .refl _, SortC.nil _, hb1⟩
  · obtain ⟨rfl, rfl⟩ : A = some ⟨g, 0, none⟩ ∧ cap = cap1 := by injection hsl with h1 h2 h3; exact ⟨h1, h3⟩
    have HS1 := Lib.hid (HS.out w1 hb1 g cap hg0 hg1 hR)
    clear HO HS HC hsl hR
    refine HS1.out.mono ?_
    rintro e w2 ⟨rfl, s, hp, hs, hR2, hbut⟩
    have hbl := hbut.below (n := w.heap.size) hb1.size (fun b h => by rw [h]; exact hg0)
    have HI := Lib.hid (show IsS w2 (fun _ => True) s (.slice (some ⟨g, 0, none⟩) s.length cap) from hR2.is (fun _ _ => trivial) trivial (by rw [hp.length_eq]; exact hcap) (by have h1 := hp.length_eq; have h2 := HLEN.out; omega))
    rw [hp.length_eq] at HI
    have HP := Lib.hid (And.intro hp hs)
    clear hp hs hR2 hbut
    go_wp2_with fail
    go_ret
    exact ⟨_, s, rfl, HI.out, HP.out.1, HP.out.2, hb1.trans hbl⟩
end Go.Proofs.YtmnblgaefdahhaaGreatDoor

/- order.Sort, whatever the order and the list. -/
set_option linter.unusedVariables false
set_option linter.unusedSimpArgs false
namespace Go.Proofs.YtmnblgaefdahhaaGreatDoor
open Go.RowKit Go.Shelf
attribute [local go_sem] lt_succ_of

/-- What is wrong with an order's number or a list. -/
def errO (o : Int) (l : List V) : Int := if o < 0 ∨ 5 < o then 4 else if 65536 < l.length then 2 else if l.all rightB = true then 0 else 3
theorem errO_good {o : Int} {l : List V} (h : errO o l = 0) : ∃ n : Nat, o = n ∧ n < 6 ∧ l.length ≤ 65536 ∧ ∀ x ∈ l, rightB x = true := by
  unfold errO at h
  split at h
  · omega
  · split at h
    · omega
    · split at h
      · rename_i h1 h2 h3
        exact ⟨o.toNat, by omega, by omega, by omega, fun x hx => List.all_eq_true.1 h3 x hx⟩
      · omega
theorem errO_form (o : Int) (l : List V) : errO o l = 0 ∨ errO o l = 4 ∨ errO o l = 2 ∨ errO o l = 3 := by
  unfold errO
  (repeat' split) <;> simp
theorem listed_bad (o : Int) (l : List V) (h : errO o l ≠ 0) (vl : Value) (w : World) (S : Nat → Prop) (hl : IsS w S l vl) (hT : Lib.Utf8Tabs 1 2 w) :
    Calls Tryz.prog 14 #[.int .i64 o, vl] w fun e w' => ∃ f, e = .returned (.tuple #[.agg #[f], .int .i64 (errO o l)]) ∧ FnLike f ∧ Below w.heap.size w w' := by
  by_cases h1 : o < 0 ∨ 5 < o
  · have e : errO o l = 4 := by unfold errO; rw [if_pos h1]
    rw [e]
    exact (listed_kind o h1 vl w).mono fun e w' ⟨f, h2, h4, h3⟩ => ⟨f, h2, h4, h3.below⟩
  · obtain ⟨n, rfl, hn⟩ : ∃ n : Nat, o = n ∧ n < 6 := ⟨o.toNat, by omega, by omega⟩
    by_cases h2 : 65536 < l.length
    · have e : errO n l = 2 := by unfold errO; rw [if_neg h1, if_pos h2]
      rw [e]
      obtain ⟨A, ca, rfl, _⟩ := hl
      exact (listed_long n hn l.length A ca h2 w).mono fun e w' ⟨f, h2, h4, h3⟩ => ⟨f, h2, h4, h3.below⟩
    · by_cases h3 : l.all rightB = true
      · exact absurd (by unfold errO; rw [if_neg h1, if_neg h2, if_pos h3]) h
      · have e : errO n l = 3 := by unfold errO; rw [if_neg h1, if_neg h2, if_neg h3]
        rw [e]
        refine listed_wrong n hn l (by omega) ?_ vl w S hl hT
        rw [List.all_eq_true] at h3
        exact Classical.byContradiction fun h4 => h3 fun x hx => Classical.byContradiction fun h5 => h4 ⟨x, hx, by simpa using h5⟩
set_option maxRecDepth 100000 in
theorem osort_bad (o : Int) (l : List V) (h : errO o l ≠ 0) (vl : Value) (w : World) (S : Nat → Prop) (hl : IsS w S l vl) (hT : Lib.Utf8Tabs 1 2 w) :
    Calls Tryz.prog 5 #[.int .i64 o, vl] w fun e w' => e = .returned (.tuple #[.slice none 0 0, .int .i64 (errO o l)]) ∧ Below w.heap.size w w' := by
  have h9 := errO_form o l
  have HC := listed_bad o l h vl w S hl hT
  obtain ⟨E, hE⟩ : ∃ E, errO o l = E := ⟨_, rfl⟩
  rw [hE] at HC h h9 ⊢
  have HC := Lib.hid HC
  have hz : (E == 0) = false := by simpa using h
  have hz2 : (E != 0) = true := by simpa using h
  clear hl hT hE h h9
  go_enter Tryz.func5, Tryz.ntmps5
  go_wp2_with (go_at_call 14; refine HC.out.mono ?_; rintro e w1 ⟨f, rfl, hf, hb1⟩; rcases hf with rfl | ⟨g, cb, rfl⟩)
  all_goals go_wp2_with fail
  all_goals go_ret2
  all_goals exact ⟨rfl, hb1.alloc hb1.size _⟩
set_option maxRecDepth 100000 in
theorem osort_good (o : Nat) (ho : o < 6) (l : List V) (hlen : l.length ≤ 65536) (hr : ∀ x ∈ l, rightB x = true) (vl : Value) (w : World) (S : Nat → Prop) (hl : IsS w S l vl) (hT : Lib.Utf8Tabs 1 2 w) :
    Calls Tryz.prog 5 #[.int .i64 o, vl] w fun e w' => ∃ v' s, e = .returned (.tuple #[v', .int .i64 0]) ∧ IsS w' (fun b => w.heap.size ≤ b) s v' ∧ s.Perm l ∧ SortC (ordF o) s ∧ Below w.heap.size w w' := by
  have HC := Lib.hid (listed_good o ho l hlen hr vl w S hl hT)
  have HS := Lib.hid (fun (w1 : World) (hb1 : Below w.heap.size w w1) (vf : Value) (hC : Cmpr (ordF o) 0 w1 vf) => sorted_calls (ordF_ordr o) l hr hlen vl vf w1 S (hl.below hb1) 0 hC (tabs_below hT hb1))
  clear hl hT hr hlen ho
  go_enter Tryz.func5, Tryz.ntmps5
  go_wp2_with (go_at_call 14; refine HC.out.mono ?_; rintro e w1 ⟨f, rfl, hcm, hb1⟩; have hB1 := hb1.below; have HCM := Lib.hid hcm; obtain ⟨g, cb, rfl⟩ := hcm.form; clear hcm hb1)
  have HS1 := Lib.hid (HS.out _ (hB1.alloc hB1.size (.cells #[.func (.func g) #[] cb] 43)) _ ((HCM.out.lower (Nat.zero_le _)).keep (Bd.box w1 (.cells #[.func (.func g) #[] cb] 43))))
  have hb2 := hB1.alloc hB1.size (.cells #[.func (.func g) #[] cb] 43)
  clear HS HC HCM
  refine HS1.out.mono ?_
  rintro e w3 ⟨v3, s, rfl, hI, hp, hs, hb3⟩
  have hb4 := below_then hb2 hb2.size hb3
  have HP := Lib.hid (And.intro hp hs)
  have HO := Lib.hid (oown_calls s v3 w3 _ hI)
  clear hI hp hs HS1
  go_wp2_with (go_at_call 15; refine HO.out.mono ?_; rintro e w5 ⟨v5, rfl, hI5, hb5⟩; have HI5 := Lib.hid hI5; clear hI5)
  go_ret2
  exact ⟨_, s, rfl, HI5.out.keep (Keeps.weak fun b (h : w3.heap.size ≤ b) => Nat.le_trans hb4.size h), HP.out.1, HP.out.2, below_then hb4 hb4.size hb5⟩
end Go.Proofs.YtmnblgaefdahhaaGreatDoor
