/- A deque cut. A part of a deque; a deque turned. A deque turned by so many. -/
import Derived.Test.YtjjbhnkplbjfeaaDoorCSpA
/- A deque cut. -/
set_option linter.unusedVariables false
set_option linter.unusedSimpArgs false
namespace Go.Proofs.YtjjbhnkplbjfeaaDoor
open Go.RowKit
attribute [local go_sem] lt_succ_of methWeight methItems

theorem listE_len {l : List V} (h : listE l = 0) : l.length ≤ 65536 := by
  unfold listE at h
  split at h
  · omega
  · omega
theorem listE_sub {l m : List V} (h : listE l = 0) (hs : ∀ x ∈ m, x ∈ l) (hm : m.length ≤ 65536) : listE m = 0 := by
  unfold listE at h ⊢
  split at h
  · omega
  · rw [if_neg (by omega)]
    split at h
    · rename_i hr
      rw [if_pos]
      unfold rightsB at hr ⊢
      rw [List.all_eq_true] at hr ⊢
      exact fun x hx => hr x (hs x hx)
    · omega
theorem listE_take {l : List V} (h : listE l = 0) (n : Nat) : listE (l.take n) = 0 := listE_sub h (fun x hx => List.mem_of_mem_take hx) (by have := listE_len h; rw [List.length_take]; omega)
theorem listE_drop {l : List V} (h : listE l = 0) (n : Nat) : listE (l.drop n) = 0 := listE_sub h (fun x hx => List.mem_of_mem_drop hx) (by have := listE_len h; rw [List.length_drop]; omega)
theorem IsLL.one {w : World} {S : Nat → Prop} {l : List V} {u : Value} {B : Nat} {t : TypeId} (hB : w.heap[B]? = some (.cells #[u] t (0, 0))) (hS : S B) (h : IsS w S l u) : IsLL w S [l] (.slice (some ⟨B, 0, none⟩) 1 1) := by
  refine ⟨⟨B, 0, none⟩, 1, rfl, by simp, by simp, fun i m hm => ?_⟩
  match i, hm with
  | 0, hm =>
    obtain rfl : l = m := by simpa using hm
    exact ⟨hS, u, h, by rw [plus0]; exact block1 hB⟩
theorem items_list (l : List V) (p : Option Addr) (w : World) (S : Nat → Prop) (h : IsD w S l p) :
    Calls Tryd.prog 84 #[.pointer p] w fun e w' => ∃ A c, e = .returned (.iface 147 (.agg #[.slice A l.length c])) ∧ l.length ≤ c ∧ LA w' (fun _ => True) l A ∧ Below w.heap.size w w' := by
  refine (whole_calls l p w S h).mono ?_
  rintro e w' ⟨v, rfl, ⟨A, c, rfl, hc, _, hA⟩, hb⟩
  exact ⟨A, c, rfl, hc, hA.keep (Keeps.weak fun _ _ => trivial), hb⟩
theorem two_boxes (W : World) (o o' : Obj) : ((W.alloc o).alloc o').heap[W.heap.size]? = some o := by
  rw [Below.heap_alloc _ _ _ (by simp)]
  exact heap_alloc_new W o
theorem two_boxes' (W : World) (o o' : Obj) : ((W.alloc o).alloc o').heap[W.heap.size + 1]? = some o' := by
  have := heap_alloc_new (W.alloc o) o'
  simpa using this
theorem chain_then {w w1 w2 : World} (h1 : Below w.heap.size w w1) (h2 : Below w1.heap.size w1 w2) : Below w.heap.size w w2 := below_then h1 h1.size h2
theorem built_one {m : List V} {u : Value} {W : World} {B : Nat} (hu : IsS W (fun _ => True) m u) (hB : W.heap[B]? = some (.cells #[u] 22 (0, 0))) (hok : listE m = 0) (hT : Lib.Utf8Tabs 1 2 W) :
    Calls Tryd.prog 85 #[.slice (some ⟨B, 0, none⟩) 1 1] W fun e w' => ∃ b, e = .returned (.pointer (some ⟨b, 0, none⟩)) ∧ IsE w' (fun _ => True) m b ∧ Below W.heap.size W w' := by
  have h65 := listE_len hok
  have hf : ([m] : List (List V)).flatten = m := by simp
  have := built_calls [m] _ W (fun _ => True) (IsLL.one hB trivial hu) (by rw [hf]; omega) (by rw [hf]; exact hok) hT
  rw [hf] at this
  exact this
set_option maxRecDepth 100000 in
set_option maxHeartbeats 4000000 in
theorem cut_calls (l : List V) (p : Option Addr) (at_ : Int) (w : World) (S : Nat → Prop) (h : IsD w S l p) (hok : listE l = 0) (hT : Lib.Utf8Tabs 1 2 w) :
    Calls Tryd.prog 52 #[.pointer p, .int .i64 at_] w fun e w' => (¬ (0 ≤ at_ ∧ at_ ≤ (l.length : Int)) ∧ e = .returned (.tuple #[.pointer none, .pointer none, .int .i64 5]) ∧ Below w.heap.size w w') ∨ ((0 ≤ at_ ∧ at_ ≤ (l.length : Int)) ∧ ∃ b c, e = .returned (.tuple #[.pointer (some ⟨b, 0, none⟩), .pointer (some ⟨c, 0, none⟩), .int .i64 0]) ∧ IsE w' (fun _ => True) (l.take at_.toNat) b ∧ IsE w' (fun _ => True) (l.drop at_.toNat) c ∧ Below w.heap.size w w') := by
  have HLN := Lib.hid (len_calls l _ w S h)
  have HEN := Lib.hid (ends_calls l _ at_ (l.length : Int) w S h)
  have HW := Lib.hid (items_list l _ w S h)
  have HT := Lib.hid hT
  have HOK := Lib.hid hok
  clear h hT hok
  by_cases hin : 0 ≤ at_ ∧ at_ ≤ (l.length : Int)
  · rw [decide_eq_true (show 0 ≤ at_ ∧ at_ ≤ (l.length : Int) ∧ (l.length : Int) ≤ (l.length : Int) from ⟨hin.1, hin.2, Int.le_refl _⟩)] at HEN
    obtain ⟨j, rfl⟩ : ∃ j : Nat, at_ = (j : Int) := ⟨at_.toNat, by omega⟩
    have hj : j ≤ l.length := by omega
    have hj2 : (j : Int) ≤ (l.length : Int) := by omega
    have HIN := Lib.hid hin
    have HJ := Lib.hid hj
    clear hin
    go_enter Tryd.func52, Tryd.ntmps52
    go_wp2_with (first
      | (go_at_call 33; refine HLN.out.mono ?_; rintro e w2 ⟨rfl, rfl⟩)
      | (go_at_call 89; refine HEN.out.mono ?_; rintro e w2 ⟨rfl, rfl⟩))
    refine HW.out.mono ?_
    rintro e w3 ⟨A, c, rfl, hc, hA, hb3⟩
    have hjc : (j : Int) ≤ (c : Int) := by omega
    have hjc2 : j ≤ c := by omega
    have hlc : (l.length : Int) ≤ (c : Int) := by omega
    have HA := Lib.hid hA
    clear hA
    go_wp2_with (go_at_call 152; refine (spanitems_calls _ _).mono ?_; rintro e w4 ⟨rfl, hb4'⟩; have hb4 := below_then hb3 hb3.size hb4')
    have h65 := listE_len HOK.out
    have HA4 := Lib.hid (HA.out.below hb4')
    have HLC := Lib.hid hc
    have HB1 : Hid (∀ u W B, IsS w4 (fun _ => True) (l.take j) u → Below w4.heap.size w4 W → W.heap[B]? = some (.cells #[u] 22 (0, 0)) → Calls Tryd.prog 85 #[.slice (some ⟨B, 0, none⟩) 1 1] W fun e w' => ∃ b, e = .returned (.pointer (some ⟨b, 0, none⟩)) ∧ IsE w' (fun _ => True) (l.take j) b ∧ Below W.heap.size W w') := Lib.hid fun u W B hu hb hB => built_one (hu.below hb) hB (listE_take HOK.out j) (tabs_below HT.out (below_then hb4 hb4.size hb))
    have HB2 : Hid (∀ u W B, IsS w4 (fun _ => True) (l.drop j) u → Below w4.heap.size w4 W → W.heap[B]? = some (.cells #[u] 22 (0, 0)) → Calls Tryd.prog 85 #[.slice (some ⟨B, 0, none⟩) 1 1] W fun e w' => ∃ b, e = .returned (.pointer (some ⟨b, 0, none⟩)) ∧ IsE w' (fun _ => True) (l.drop j) b ∧ Below W.heap.size W w') := Lib.hid fun u W B hu hb hB => built_one (hu.below hb) hB (listE_drop HOK.out j) (tabs_below HT.out (below_then hb4 hb4.size hb))
    have hcase : (∃ ad, A = some ad ∧ c ≠ j) ∨ (∃ ad, A = some ad ∧ c = j) ∨ A = none := by
      cases A with
      | none => exact .inr (.inr rfl)
      | some ad => by_cases hcj : c = j
                   · exact .inr (.inl ⟨ad, rfl, hcj⟩)
                   · exact .inl ⟨ad, rfl, hcj⟩
    rcases hcase with ⟨ad, rfl, hcj⟩ | ⟨ad, rfl, rfl⟩ | rfl
    · have HS1 : Hid (IsS w4 (fun _ => True) (l.take j) (.slice (some ad) j c)) := Lib.hid ⟨_, c, by rw [List.length_take, Nat.min_eq_left hj], by rw [List.length_take]; omega, by rw [List.length_take]; omega, HA4.out.take j⟩
      have HS2 : Hid (IsS w4 (fun _ => True) (l.drop j) (.slice (some (ad.add (j * 4))) (l.length - j) (c - j))) := Lib.hid ⟨_, c - j, by rw [List.length_drop], by rw [List.length_drop]; omega, by rw [List.length_drop]; omega, HA4.out.drop j⟩
      clear h65 HLN HEN HW HA HA4 HLC hc hj
      go_region_held3 (fun w' => True) (first | trivial)
        (first
          | (go_at_call 85; refine (HB1.out _ _ _ HS1.out (by (repeat (first | exact Below.refl _ _ | refine drew_of ?_ | refine alloc_of ?_ _))) (by first | exact heap_alloc_new _ _ | exact two_boxes _ _ _ | exact two_boxes' _ _ _)).mono ?_; rintro e w5 ⟨b5, rfl, hv5, hb5⟩; have HV5 := Lib.hid hv5; clear hv5 HB1)
          | (go_at_call 85; refine (HB2.out _ _ _ HS2.out (by first | exact chain_then (by (repeat (first | exact Below.refl _ _ | refine drew_of ?_ | refine alloc_of ?_ _))) hb5 | exact alloc_of (chain_then (by (repeat (first | exact Below.refl _ _ | refine drew_of ?_ | refine alloc_of ?_ _))) hb5) _) (by first | exact heap_alloc_new _ _ | exact blockB hb5 (by first | exact two_boxes _ _ _ | exact two_boxes' _ _ _ | exact heap_alloc_new _ _))).mono ?_; rintro e w6 ⟨b6, rfl, hv6, hb6'⟩; have HV6 := Lib.hid hv6; clear hv6 HB2))
      all_goals
        have kA : Below w4.heap.size w4 w5 := chain_then (by (repeat (first | exact Below.refl _ _ | refine drew_of ?_ | refine alloc_of ?_ _))) hb5
        have kB : Below w5.heap.size w5 w6 := by first | exact hb6' | exact chain_then (by (repeat (first | exact Below.refl _ _ | refine drew_of ?_ | refine alloc_of ?_ _))) hb6'
        go_wp2_with fail
        refine bodyPost_ret (v := .tuple #[.pointer (some ⟨b5, 0, none⟩), .pointer (some ⟨b6, 0, none⟩), .int .i64 0]) (by simp [results, Tryd.results52, go_sem]) rfl (.inr ⟨HIN.out, _, _, rfl, HV5.out.below kB, HV6.out, chain_then hb4 (chain_then kA kB)⟩)
    · obtain rfl : c = l.length := by omega
      have HS1 : Hid (IsS w4 (fun _ => True) (l.take l.length) (.slice (some ad) l.length l.length)) := Lib.hid ⟨some ad, l.length, by simp, by simp, by simp; omega, HA4.out.take _⟩
      have HS2 : Hid (IsS w4 (fun _ => True) (l.drop l.length) (.slice (some ad) 0 0)) := Lib.hid ⟨some ad, 0, by simp, by simp, by simp, .inl (by simp)⟩
      clear h65 HLN HEN HW HA HA4 HLC hc hj
      go_region_held3 (fun w' => True) (first | trivial)
        (first
          | (go_at_call 85; refine (HB1.out _ _ _ HS1.out (by (repeat (first | exact Below.refl _ _ | refine drew_of ?_ | refine alloc_of ?_ _))) (by first | exact heap_alloc_new _ _ | exact two_boxes _ _ _ | exact two_boxes' _ _ _)).mono ?_; rintro e w5 ⟨b5, rfl, hv5, hb5⟩; have HV5 := Lib.hid hv5; clear hv5 HB1)
          | (go_at_call 85; refine (HB2.out _ _ _ HS2.out (by first | exact chain_then (by (repeat (first | exact Below.refl _ _ | refine drew_of ?_ | refine alloc_of ?_ _))) hb5 | exact alloc_of (chain_then (by (repeat (first | exact Below.refl _ _ | refine drew_of ?_ | refine alloc_of ?_ _))) hb5) _) (by first | exact heap_alloc_new _ _ | exact blockB hb5 (by first | exact two_boxes _ _ _ | exact two_boxes' _ _ _ | exact heap_alloc_new _ _))).mono ?_; rintro e w6 ⟨b6, rfl, hv6, hb6'⟩; have HV6 := Lib.hid hv6; clear hv6 HB2))
      all_goals
        have kA : Below w4.heap.size w4 w5 := chain_then (by (repeat (first | exact Below.refl _ _ | refine drew_of ?_ | refine alloc_of ?_ _))) hb5
        have kB : Below w5.heap.size w5 w6 := by first | exact hb6' | exact chain_then (by (repeat (first | exact Below.refl _ _ | refine drew_of ?_ | refine alloc_of ?_ _))) hb6'
        go_wp2_with fail
        refine bodyPost_ret (v := .tuple #[.pointer (some ⟨b5, 0, none⟩), .pointer (some ⟨b6, 0, none⟩), .int .i64 0]) (by simp [results, Tryd.results52, go_sem]) rfl (.inr ⟨HIN.out, _, _, rfl, HV5.out.below kB, HV6.out, chain_then hb4 (chain_then kA kB)⟩)
    · obtain rfl : l = [] := by rcases HA4.out with h | ⟨ad, h, _⟩; exact h; cases h
      obtain rfl : j = 0 := by simpa using hj
      have HS1 : Hid (∀ x, IsS w4 (fun _ => True) (([] : List V).take 0) (.slice none 0 x)) := Lib.hid fun x => ⟨none, x, by simp, by simp, by simp, .inl (by simp)⟩
      have HS2 : Hid (∀ x, IsS w4 (fun _ => True) (([] : List V).drop 0) (.slice none 0 x)) := Lib.hid fun x => ⟨none, x, by simp, by simp, by simp, .inl (by simp)⟩
      clear h65 HLN HEN HW HA HA4 HLC hc hj
      go_region_held3 (fun w' => True) (first | trivial)
        (first
          | (go_at_call 85; refine (HB1.out _ _ _ (HS1.out _) (by (repeat (first | exact Below.refl _ _ | refine drew_of ?_ | refine alloc_of ?_ _))) (by first | exact heap_alloc_new _ _ | exact two_boxes _ _ _ | exact two_boxes' _ _ _)).mono ?_; rintro e w5 ⟨b5, rfl, hv5, hb5⟩; have HV5 := Lib.hid hv5; clear hv5 HB1)
          | (go_at_call 85; refine (HB2.out _ _ _ (HS2.out _) (by first | exact chain_then (by (repeat (first | exact Below.refl _ _ | refine drew_of ?_ | refine alloc_of ?_ _))) hb5 | exact alloc_of (chain_then (by (repeat (first | exact Below.refl _ _ | refine drew_of ?_ | refine alloc_of ?_ _))) hb5) _) (by first | exact heap_alloc_new _ _ | exact blockB hb5 (by first | exact two_boxes _ _ _ | exact two_boxes' _ _ _ | exact heap_alloc_new _ _))).mono ?_; rintro e w6 ⟨b6, rfl, hv6, hb6'⟩; have HV6 := Lib.hid hv6; clear hv6 HB2))
      all_goals
        have kA : Below w4.heap.size w4 w5 := chain_then (by (repeat (first | exact Below.refl _ _ | refine drew_of ?_ | refine alloc_of ?_ _))) hb5
        have kB : Below w5.heap.size w5 w6 := by first | exact hb6' | exact chain_then (by (repeat (first | exact Below.refl _ _ | refine drew_of ?_ | refine alloc_of ?_ _))) hb6'
        go_wp2_with fail
        refine bodyPost_ret (v := .tuple #[.pointer (some ⟨b5, 0, none⟩), .pointer (some ⟨b6, 0, none⟩), .int .i64 0]) (by simp [results, Tryd.results52, go_sem]) rfl (.inr ⟨HIN.out, _, _, rfl, HV5.out.below kB, HV6.out, chain_then hb4 (chain_then kA kB)⟩)
  · rw [decide_eq_false (show ¬ (0 ≤ at_ ∧ at_ ≤ (l.length : Int) ∧ (l.length : Int) ≤ (l.length : Int)) from fun h => hin ⟨h.1, h.2.1⟩)] at HEN
    have HIN := Lib.hid hin
    clear hin
    go_enter Tryd.func52, Tryd.ntmps52
    go_wp2_with (first
      | (go_at_call 33; refine HLN.out.mono ?_; rintro e w2 ⟨rfl, rfl⟩)
      | (go_at_call 89; refine HEN.out.mono ?_; rintro e w2 ⟨rfl, rfl⟩))
    refine bodyPost_ret (v := .tuple #[.pointer none, .pointer none, .int .i64 5]) (by simp [results, Tryd.results52, go_sem]) rfl (.inl ⟨HIN.out, rfl, Below.refl _ _⟩)
end Go.Proofs.YtjjbhnkplbjfeaaDoor

/- A part of a deque; a deque turned. -/
set_option linter.unusedVariables false
set_option linter.unusedSimpArgs false
namespace Go.Proofs.YtjjbhnkplbjfeaaDoor
open Go.RowKit
attribute [local go_sem] lt_succ_of methWeight methItems

theorem IsLL.two {w : World} {S : Nat → Prop} {l m : List V} {u v : Value} {B : Nat} {t : TypeId} (hB : w.heap[B]? = some (.cells #[u, v] t (0, 0))) (hS : S B) (h : IsS w S l u) (h2 : IsS w S m v) : IsLL w S [l, m] (.slice (some ⟨B, 0, none⟩) 2 2) := by
  refine ⟨⟨B, 0, none⟩, 2, rfl, by simp, by simp, fun i k hk => ?_⟩
  match i, hk with
  | 0, hk =>
    obtain rfl : l = k := by simpa using hk
    exact ⟨hS, u, h, by rw [plus0]; simp [World.cell?, hB]⟩
  | 1, hk =>
    obtain rfl : m = k := by simpa using hk
    exact ⟨hS, v, h2, by rw [plus0]; simp [World.cell?, hB]⟩
theorem IsLL.three {w : World} {S : Nat → Prop} {l m n : List V} {u v z : Value} {B : Nat} {t : TypeId} (hB : w.heap[B]? = some (.cells #[u, v, z] t (0, 0))) (hS : S B) (h : IsS w S l u) (h2 : IsS w S m v) (h3 : IsS w S n z) : IsLL w S [l, m, n] (.slice (some ⟨B, 0, none⟩) 3 3) := by
  refine ⟨⟨B, 0, none⟩, 3, rfl, by simp, by simp, fun i k hk => ?_⟩
  match i, hk with
  | 0, hk =>
    obtain rfl : l = k := by simpa using hk
    exact ⟨hS, u, h, by rw [plus0]; simp [World.cell?, hB]⟩
  | 1, hk =>
    obtain rfl : m = k := by simpa using hk
    exact ⟨hS, v, h2, by rw [plus0]; simp [World.cell?, hB]⟩
  | 2, hk =>
    obtain rfl : n = k := by simpa using hk
    exact ⟨hS, z, h3, by rw [plus0]; simp [World.cell?, hB]⟩
theorem built_two {m n : List V} {u v : Value} {W : World} {B : Nat} (hu : IsS W (fun _ => True) m u) (hv : IsS W (fun _ => True) n v) (hB : W.heap[B]? = some (.cells #[u, v] 22 (0, 0))) (hok : listE (m ++ n) = 0) (hT : Lib.Utf8Tabs 1 2 W) :
    Calls Tryd.prog 85 #[.slice (some ⟨B, 0, none⟩) 2 2] W fun e w' => ∃ b, e = .returned (.pointer (some ⟨b, 0, none⟩)) ∧ IsE w' (fun _ => True) (m ++ n) b ∧ Below W.heap.size W w' := by
  have h65 := listE_len hok
  have hf : ([m, n] : List (List V)).flatten = m ++ n := by simp
  have := built_calls [m, n] _ W (fun _ => True) (IsLL.two hB trivial hu hv) (by rw [hf]; omega) (by rw [hf]; exact hok) hT
  rw [hf] at this
  exact this
theorem built_three {m n k : List V} {u v z : Value} {W : World} {B : Nat} (hu : IsS W (fun _ => True) m u) (hv : IsS W (fun _ => True) n v) (hz : IsS W (fun _ => True) k z) (hB : W.heap[B]? = some (.cells #[u, v, z] 22 (0, 0))) (hok : listE (m ++ n ++ k) = 0) (hT : Lib.Utf8Tabs 1 2 W) :
    Calls Tryd.prog 85 #[.slice (some ⟨B, 0, none⟩) 3 3] W fun e w' => ∃ b, e = .returned (.pointer (some ⟨b, 0, none⟩)) ∧ IsE w' (fun _ => True) (m ++ n ++ k) b ∧ Below W.heap.size W w' := by
  have h65 := listE_len hok
  have hf : ([m, n, k] : List (List V)).flatten = m ++ n ++ k := by simp
  have := built_calls [m, n, k] _ W (fun _ => True) (IsLL.three hB trivial hu hv hz) (by rw [hf]; omega) (by rw [hf]; exact hok) hT
  rw [hf] at this
  exact this
theorem LA.drop_map {w : World} {S : Nat → Prop} {l : List V} {A : Option Addr} (n : Nat) (h : LA w S l A) : LA w S (l.drop n) (A.map (fun x => x.add (n * 4))) := by
  cases A with
  | none => rcases h with h | ⟨ad, h, _⟩
            · exact .inl (by rw [h]; simp)
            · cases h
  | some ad => exact h.drop n
/-- What is left behind a place: the slice keeps its place if no room is left. -/
theorem listE_perm {l m : List V} (h : listE l = 0) (hs : ∀ x ∈ m, x ∈ l) (hm : m.length = l.length) : listE m = 0 := listE_sub h hs (by have := listE_len h; omega)
set_option maxRecDepth 100000 in
set_option maxHeartbeats 4000000 in
theorem slice_calls (l : List V) (p : Option Addr) (from_ to : Int) (w : World) (S : Nat → Prop) (h : IsD w S l p) (hok : listE l = 0) (hT : Lib.Utf8Tabs 1 2 w) :
    Calls Tryd.prog 56 #[.pointer p, .int .i64 from_, .int .i64 to] w fun e w' => (¬ (0 ≤ from_ ∧ from_ ≤ to ∧ to ≤ (l.length : Int)) ∧ e = .returned (.tuple #[.pointer none, .int .i64 5]) ∧ Below w.heap.size w w') ∨ ((0 ≤ from_ ∧ from_ ≤ to ∧ to ≤ (l.length : Int)) ∧ ∃ b, e = .returned (.tuple #[.pointer (some ⟨b, 0, none⟩), .int .i64 0]) ∧ IsE w' (fun _ => True) ((l.take to.toNat).drop from_.toNat) b ∧ Below w.heap.size w w') := by
  have HEN := Lib.hid (ends_calls l _ from_ to w S h)
  have HW := Lib.hid (items_list l _ w S h)
  have HT := Lib.hid hT
  have HOK := Lib.hid hok
  clear h hT hok
  by_cases hin : 0 ≤ from_ ∧ from_ ≤ to ∧ to ≤ (l.length : Int)
  · rw [decide_eq_true hin] at HEN
    obtain ⟨j, rfl⟩ : ∃ j : Nat, from_ = (j : Int) := ⟨from_.toNat, by omega⟩
    obtain ⟨k, rfl⟩ : ∃ k : Nat, to = (k : Int) := ⟨to.toNat, by omega⟩
    have hj : j ≤ k := by omega
    have hk : k ≤ l.length := by omega
    have hj2 : (j : Int) ≤ (k : Int) := by omega
    have hk2 : (k : Int) ≤ (l.length : Int) := by omega
    have HIN := Lib.hid hin
    clear hin
    go_enter Tryd.func56, Tryd.ntmps56
    go_wp2_with (first
      | (go_at_call 89; refine HEN.out.mono ?_; rintro e w2 ⟨rfl, rfl⟩))
    refine HW.out.mono ?_
    rintro e w3 ⟨A, c, rfl, hc, hA, hb3⟩
    have hkc : (k : Int) ≤ (c : Int) := by omega
    have hkc2 : k ≤ c := by omega
    have hlc : (l.length : Int) ≤ (c : Int) := by omega
    have HA := Lib.hid hA
    clear hA
    go_wp2_with (go_at_call 152; refine (spanitems_calls _ _).mono ?_; rintro e w4 ⟨rfl, hb4'⟩; have hb4 := below_then hb3 hb3.size hb4')
    all_goals
      have hln : ((l.take k).drop j).length = k - j := by rw [List.length_drop, List.length_take]; omega
      have HS1 : Hid (IsS w4 (fun _ => True) ((l.take k).drop j) (.slice (A.map (fun x => x.add (j * 4))) (k - j) (c - j))) := Lib.hid ⟨_, c - j, by rw [hln], by rw [hln]; omega, by rw [hln]; have := listE_len HOK.out; omega, ((HA.out.below hb4').take k).drop_map j⟩
      have HS2 : c = j → IsS w4 (fun _ => True) ((l.take k).drop j) (.slice A (k - j) 0) := fun e => ⟨A, 0, by rw [hln], by rw [hln]; omega, by rw [hln]; have := listE_len HOK.out; omega, .inl (List.length_eq_zero_iff.1 (by rw [hln]; omega))⟩
      have HE := Lib.hid (listE_drop (listE_take HOK.out k) j)
      have HN := Lib.hid (show ((l.take (k : Int).toNat).drop (j : Int).toNat) = (l.take k).drop j from rfl)
      refine (built_one (IsS.below (alloc_of (Below.refl _ _) _) (by first | exact HS1.out | exact HS2 (by assumption))) (heap_alloc_new _ _) HE.out (tabs_below HT.out (alloc_of hb4 _))).mono ?_
      rintro e w5 ⟨b5, rfl, hv5, hb5⟩
      have HV5 := Lib.hid hv5
      have hb6 := chain_then (alloc_of hb4 _) hb5
      clear hv5
      go_wp2_with fail
      go_ret2
      exact .inr ⟨HIN.out, _, rfl, HV5.out, hb6⟩
  · rw [decide_eq_false hin] at HEN
    have HIN := Lib.hid hin
    clear hin
    go_enter Tryd.func56, Tryd.ntmps56
    go_wp2_with (first
      | (go_at_call 89; refine HEN.out.mono ?_; rintro e w2 ⟨rfl, rfl⟩))
    go_ret2
    exact .inl ⟨HIN.out, rfl, Below.refl _ _⟩
end Go.Proofs.YtjjbhnkplbjfeaaDoor

/- A deque turned by so many. -/
set_option linter.unusedVariables false
set_option linter.unusedSimpArgs false
namespace Go.Proofs.YtjjbhnkplbjfeaaDoor
open Go.RowKit
attribute [local go_sem] lt_succ_of methWeight methItems

def rotV (l : List V) (k : Int) : List V := l.drop (k % (l.length : Int)).toNat ++ l.take (k % (l.length : Int)).toNat
theorem rotV_length (l : List V) (k : Int) : (rotV l k).length = l.length := by
  unfold rotV
  rw [List.length_append, List.length_drop, List.length_take]
  by_cases h : l.length = 0
  · omega
  · have := Int.emod_lt_of_pos k (show (0 : Int) < (l.length : Int) by omega)
    omega
theorem rotV_mem {l : List V} {k : Int} (x : V) (h : x ∈ rotV l k) : x ∈ l := by
  unfold rotV at h
  rcases List.mem_append.1 h with h | h
  · exact List.mem_of_mem_drop h
  · exact List.mem_of_mem_take h
theorem rotV_ok {l : List V} {k : Int} (h : listE l = 0) : listE (rotV l k) = 0 := listE_perm h rotV_mem (rotV_length l k)
theorem rem_fit (k : Int) (n : Nat) (h0 : n ≠ 0) : (Int.tmod k n < 0 → Int.tmod k n + n = k % n) ∧ (¬ Int.tmod k n < 0 → Int.tmod k n = k % n) := by
  have h1 := Int.emod_nonneg k (show (n : Int) ≠ 0 by omega)
  have h2 := Int.emod_lt_of_pos k (show (0 : Int) < n by omega)
  have h3 := Int.tmod_eq_emod (a := k) (b := (n : Int))
  split at h3 <;> omega
set_option maxRecDepth 100000 in
set_option maxHeartbeats 4000000 in
theorem rotate_calls (l : List V) (p : Option Addr) (k : Int) (w : World) (S : Nat → Prop) (h : IsD w S l p) (hok : listE l = 0) (hT : Lib.Utf8Tabs 1 2 w) (hk0 : -9223372036854775808 ≤ k) (hk1 : k ≤ 9223372036854775807) :
    Calls Tryd.prog 46 #[.pointer p, .int .i64 k] w fun e w' => ∃ b, e = .returned (.pointer (some ⟨b, 0, none⟩)) ∧ IsE w' (fun _ => True) (rotV l k) b ∧ Below w.heap.size w w' := by
  have HLN := Lib.hid (len_calls l _ w S h)
  have HW := Lib.hid (items_list l _ w S h)
  have HT := Lib.hid hT
  have HOK := Lib.hid hok
  have h65 := listE_len hok
  clear h hT hok
  by_cases h0 : l.length = 0
  · obtain rfl := List.length_eq_zero_iff.1 h0
    clear h0
    go_enter Tryd.func46, Tryd.ntmps46
    go_wp2_with (first
      | (go_at_call 33; refine HLN.out.mono ?_; rintro e w2 ⟨rfl, rfl⟩)
      | (go_at_call 63; refine (new_calls _).mono ?_; rintro e w3 ⟨rfl, hk3, hb3⟩; have HK3 := Lib.hid hk3; clear hk3))
    go_ret
    exact ⟨_, rfl, by simpa [rotV] using new_is HK3.out, hb3⟩
  · have e0 : ((l.length : Int) == 0) = false := by simpa using h0
    obtain ⟨hr1, hr2⟩ := rem_fit k l.length h0
    obtain ⟨j, hj⟩ : ∃ j : Nat, k % (l.length : Int) = (j : Int) := ⟨(k % (l.length : Int)).toNat, by have := Int.emod_nonneg k (show (l.length : Int) ≠ 0 by omega); omega⟩
    have hjl : j < l.length := by have := Int.emod_lt_of_pos k (show (0 : Int) < (l.length : Int) by omega); omega
    have hrot : rotV l k = l.drop j ++ l.take j := by unfold rotV; rw [hj]; rfl
    have HE := Lib.hid (show listE (l.drop j ++ l.take j) = 0 by rw [← hrot]; exact rotV_ok HOK.out)
    rw [hrot]
    rw [hj] at hr1 hr2
    obtain ⟨m, hm⟩ : ∃ m, Int.tmod k (l.length : Int) = m := ⟨_, rfl⟩
    rw [hm] at hr1 hr2
    have hj2 : (j : Int) ≤ (l.length : Int) := by omega
    by_cases hneg : m < 0
    · have hr := hr1 hneg
      have i1 : IntKind.i64.wrap (m + (l.length : Int)) = (j : Int) := by rw [hr]; exact IntWalk.i64_in _ (by omega)
      have d1 : decide (m < 0) = true := decide_eq_true hneg
      clear hr1 hr2 hrot hr hj hk0 hk1 h0
      go_enter Tryd.func46, Tryd.ntmps46
      go_wp2_with (first
        | (go_at_call 33; refine HLN.out.mono ?_; rintro e w2 ⟨rfl, rfl⟩))
      refine HW.out.mono ?_
      rintro e w3 ⟨A, c, rfl, hc, hA, hb3⟩
      have hjc : (j : Int) ≤ (c : Int) := by omega
      have hjc2 : j ≤ c := by omega
      have hcj : ¬ c = j := by omega
      have hlc : (l.length : Int) ≤ (c : Int) := by omega
      have HA := Lib.hid hA
      obtain ⟨ad, rfl⟩ : ∃ ad, A = some ad := by
        rcases hA with h | ⟨ad, h, _⟩
        · rw [h] at hjl; simp at hjl
        · exact ⟨ad, h⟩
      clear hA
      go_wp2_with (go_at_call 152; refine (spanitems_calls _ _).mono ?_; rintro e w4 ⟨rfl, hb4'⟩; have hb4 := below_then hb3 hb3.size hb4'; have HS1 : Hid (IsS w4 (fun _ => True) (l.take j) (.slice (some ad) j c)) := Lib.hid ⟨some ad, c, by rw [List.length_take, Nat.min_eq_left (by omega)], by rw [List.length_take]; omega, by rw [List.length_take]; omega, (HA.out.below hb4').take j⟩; have HS2 : Hid (IsS w4 (fun _ => True) (l.drop j) (.slice (some (ad.add (j * 4))) (l.length - j) (c - j))) := Lib.hid ⟨_, c - j, by rw [List.length_drop], by rw [List.length_drop]; omega, by rw [List.length_drop]; omega, (HA.out.below hb4').drop j⟩)
      have HB := Lib.hid (built_two (HS2.out.below (drew_of (alloc_of (Below.refl _ _) (.cells #[.slice (some (ad.add (j * 4))) (l.length - j) (c - j), .slice (some ad) j c] 22)))) (HS1.out.below (drew_of (alloc_of (Below.refl _ _) (.cells #[.slice (some (ad.add (j * 4))) (l.length - j) (c - j), .slice (some ad) j c] 22)))) (heap_alloc_new _ _) HE.out (tabs_below HT.out (drew_of (alloc_of hb4 _))))
      clear HA HS1 HS2 HW HLN
      go_still_tail 6, (by kernel_rfl)
      go_wp2_with (go_at_call 85; refine HB.out.mono ?_; rintro e w5 ⟨b5, rfl, hv5, hb5⟩; have HV5 := Lib.hid hv5; clear hv5; have hb6 := chain_then (drew_of (alloc_of hb4 _)) hb5)
      go_ret
      exact ⟨_, rfl, HV5.out, hb6⟩
    · have hr := hr2 hneg
      subst hr
      have d1 : decide ((j : Int) < 0) = false := by simp
      clear hr1 hr2 hrot hj hk0 hk1 h0
      go_enter Tryd.func46, Tryd.ntmps46
      go_wp2_with (first
        | (go_at_call 33; refine HLN.out.mono ?_; rintro e w2 ⟨rfl, rfl⟩))
      refine HW.out.mono ?_
      rintro e w3 ⟨A, c, rfl, hc, hA, hb3⟩
      have hjc : (j : Int) ≤ (c : Int) := by omega
      have hjc2 : j ≤ c := by omega
      have hcj : ¬ c = j := by omega
      have hlc : (l.length : Int) ≤ (c : Int) := by omega
      have HA := Lib.hid hA
      obtain ⟨ad, rfl⟩ : ∃ ad, A = some ad := by
        rcases hA with h | ⟨ad, h, _⟩
        · rw [h] at hjl; simp at hjl
        · exact ⟨ad, h⟩
      clear hA
      go_wp2_with (go_at_call 152; refine (spanitems_calls _ _).mono ?_; rintro e w4 ⟨rfl, hb4'⟩; have hb4 := below_then hb3 hb3.size hb4'; have HS1 : Hid (IsS w4 (fun _ => True) (l.take j) (.slice (some ad) j c)) := Lib.hid ⟨some ad, c, by rw [List.length_take, Nat.min_eq_left (by omega)], by rw [List.length_take]; omega, by rw [List.length_take]; omega, (HA.out.below hb4').take j⟩; have HS2 : Hid (IsS w4 (fun _ => True) (l.drop j) (.slice (some (ad.add (j * 4))) (l.length - j) (c - j))) := Lib.hid ⟨_, c - j, by rw [List.length_drop], by rw [List.length_drop]; omega, by rw [List.length_drop]; omega, (HA.out.below hb4').drop j⟩)
      have HB := Lib.hid (built_two (HS2.out.below (drew_of (alloc_of (Below.refl _ _) (.cells #[.slice (some (ad.add (j * 4))) (l.length - j) (c - j), .slice (some ad) j c] 22)))) (HS1.out.below (drew_of (alloc_of (Below.refl _ _) (.cells #[.slice (some (ad.add (j * 4))) (l.length - j) (c - j), .slice (some ad) j c] 22)))) (heap_alloc_new _ _) HE.out (tabs_below HT.out (drew_of (alloc_of hb4 _))))
      clear HA HS1 HS2 HW HLN
      go_still_tail 6, (by kernel_rfl)
      go_wp2_with (go_at_call 85; refine HB.out.mono ?_; rintro e w5 ⟨b5, rfl, hv5, hb5⟩; have HV5 := Lib.hid hv5; clear hv5; have hb6 := chain_then (drew_of (alloc_of hb4 _)) hb5)
      go_ret
      exact ⟨_, rfl, HV5.out, hb6⟩
end Go.Proofs.YtjjbhnkplbjfeaaDoor
