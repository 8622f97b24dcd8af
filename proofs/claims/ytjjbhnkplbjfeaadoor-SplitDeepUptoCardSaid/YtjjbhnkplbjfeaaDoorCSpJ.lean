/- An item put between, and one taken from between. An item put between. -/
import Derived.Test.YtjjbhnkplbjfeaaDoorCSpG
/- An item put between, and one taken from between. -/
set_option linter.unusedVariables false
set_option linter.unusedSimpArgs false
namespace Go.Proofs.YtjjbhnkplbjfeaaDoor
open Go.RowKit
attribute [local go_sem] lt_succ_of methWeight methItems

theorem built_two' {m n : List V} {u v : Value} {W : World} {B : Nat} (hu : IsS W (fun _ => True) m u) (hv : IsS W (fun _ => True) n v) (hB : W.heap[B]? = some (.cells #[u, v] 22 (0, 0))) (hok : listE (m ++ n) = 0) (hT : Lib.Utf8Tabs 1 2 W) :
    Calls Tryd.prog 85 #[.slice (some ⟨B, 0, none⟩) 2 2] W fun e w' => ∃ b, e = .returned (.pointer (some ⟨b, 0, none⟩)) ∧ IsE w' (fun k => W.heap.size ≤ k) (m ++ n) b ∧ Below W.heap.size W w' := by
  have h65 := listE_len hok
  have hf : ([m, n] : List (List V)).flatten = m ++ n := by simp
  have := built_new [m, n] _ W (fun _ => True) (IsLL.two hB trivial hu hv) (by rw [hf]; omega) (by rw [hf]; exact hok) hT
  rw [hf] at this
  exact this
def insE (l : List V) (i : Int) (x : V) : Int := if rightB x = true then (if 0 ≤ i ∧ i ≤ (l.length : Int) then (if l.length = 65536 then 2 else 0) else 5) else 3
def insL (l : List V) (i : Nat) (x : V) : List V := l.take i ++ [x] ++ l.drop i
def remL (l : List V) (i : Nat) : List V := l.take i ++ l.drop (i + 1)
theorem listE_right {l : List V} (h : listE l = 0) : ∀ x ∈ l, rightB x = true := by
  unfold listE at h
  split at h
  · omega
  · split at h
    · rename_i hr
      unfold rightsB at hr
      rw [List.all_eq_true] at hr
      exact hr
    · omega
theorem listE_of {l : List V} (h : ∀ x ∈ l, rightB x = true) (h2 : l.length ≤ 65536) : listE l = 0 := by
  unfold listE
  rw [if_neg (by omega), if_pos]
  unfold rightsB
  rw [List.all_eq_true]
  exact h
theorem insL_ok {l : List V} {i : Nat} {x : V} (h : listE l = 0) (hx : rightB x = true) (hl : l.length < 65536) : listE (insL l i x) = 0 := by
  unfold insL
  refine listE_of (fun y hy => ?_) (by simp only [List.length_append, List.length_take, List.length_drop, List.length_cons, List.length_nil]; omega)
  simp only [List.mem_append, List.mem_cons, List.not_mem_nil, or_false] at hy
  rcases hy with (hy | rfl) | hy
  · exact listE_right h _ (List.mem_of_mem_take hy)
  · exact hx
  · exact listE_right h _ (List.mem_of_mem_drop hy)
theorem remL_ok {l : List V} {i : Nat} (h : listE l = 0) : listE (remL l i) = 0 := by
  unfold remL
  have := listE_len h
  refine listE_of (fun y hy => ?_) (by simp only [List.length_append, List.length_take, List.length_drop]; omega)
  rcases List.mem_append.1 hy with hy | hy
  · exact listE_right h _ (List.mem_of_mem_take hy)
  · exact listE_right h _ (List.mem_of_mem_drop hy)
theorem IsS.single {w : World} {S : Nat → Prop} {x : V} {B : Nat} {cs : List Value} {t : TypeId} (hB : w.heap[B]? = some (.cells cs.toArray t (0, 0))) (hS : S B) (h : VC w S x cs) : IsS w S [x] (.slice (some ⟨B, 0, none⟩) 1 1) :=
  ⟨some ⟨B, 0, none⟩, 1, rfl, by simp, by simp, CsL.la (c := cs) ⟨cs, [], by simp, h, rfl⟩ hB hS⟩
abbrev Keep8 (X B : Nat) (a b c d : Value) (w' : World) : Prop := w'.cell? ⟨X, 0, none⟩ = some a ∧ w'.cell? ⟨X, 1, none⟩ = some b ∧ w'.cell? ⟨X, 2, none⟩ = some c ∧ w'.cell? ⟨X, 3, none⟩ = some d ∧ w'.frozen? ⟨B, 0, none⟩ = false ∧ w'.frozen? ⟨B, 1, none⟩ = false ∧ w'.frozen? ⟨B, 2, none⟩ = false ∧ w'.frozen? ⟨B, 3, none⟩ = false ∧ B < w'.heap.size
theorem frozenB {w w' : World} (hb : Below w.heap.size w w') {b n : Nat} (hl : b < w.heap.size) (h : w.frozen? ⟨b, n, none⟩ = false) : w'.frozen? ⟨b, n, none⟩ = false := by
  unfold World.frozen? at h ⊢
  rw [hb.block b hl]
  exact h
theorem keep8 {W W' : World} {X B : Nat} {a b c d : Value} (h : Below W.heap.size W W') (hS : Keep8 X B a b c d W) : Keep8 X B a b c d W' := by
  obtain ⟨h0, h1, h2, h3, f0, f1, f2, f3, hl⟩ := hS
  exact ⟨cellB h h0, cellB h h1, cellB h h2, cellB h h3, frozenB h hl f0, frozenB h hl f1, frozenB h hl f2, frozenB h hl f3, Nat.lt_of_lt_of_le hl h.size⟩
theorem keep8s {W : World} {X B : Nat} {a b c d d0 d1 d2 d3 : Value} (hne : X ≠ B) (hS : Keep8 X B a b c d W) : Keep8 X B a b c d ((((W.setCell ⟨B, 0, none⟩ d0).setCell ⟨B, 1, none⟩ d1).setCell ⟨B, 2, none⟩ d2).setCell ⟨B, 3, none⟩ d3) := by
  obtain ⟨h0, h1, h2, h3, f0, f1, f2, f3, hl⟩ := hS
  have hX : ∀ n, ((((W.setCell ⟨B, 0, none⟩ d0).setCell ⟨B, 1, none⟩ d1).setCell ⟨B, 2, none⟩ d2).setCell ⟨B, 3, none⟩ d3).cell? ⟨X, n, none⟩ = W.cell? ⟨X, n, none⟩ := fun n => by
    have : ((((W.setCell ⟨B, 0, none⟩ d0).setCell ⟨B, 1, none⟩ d1).setCell ⟨B, 2, none⟩ d2).setCell ⟨B, 3, none⟩ d3).heap[X]? = W.heap[X]? := by
      rw [Below.heap_setCell _ _ _ _ hne, Below.heap_setCell _ _ _ _ hne, Below.heap_setCell _ _ _ _ hne, Below.heap_setCell _ _ _ _ hne]
    simp only [World.cell?, this]
  refine ⟨by rw [hX]; exact h0, by rw [hX]; exact h1, by rw [hX]; exact h2, by rw [hX]; exact h3, ?_, ?_, ?_, ?_, ?_⟩
  · simpa using f0
  · simpa using f1
  · simpa using f2
  · simpa using f3
  · simpa using hl
set_option maxRecDepth 100000 in
set_option maxHeartbeats 4000000 in
theorem remove_calls (l : List V) (p : Option Addr) (i : Int) (w : World) (S : Nat → Prop) (h : IsD w S l p) (hok : listE l = 0) (hT : Lib.Utf8Tabs 1 2 w) (hi0 : -9223372036854775808 ≤ i) (hi1 : i ≤ 9223372036854775807) :
    Calls Tryd.prog 60 #[.pointer p, .int .i64 i] w fun e w' => (¬ (0 ≤ i ∧ i < (l.length : Int)) ∧ ∃ v, e = .returned (.tuple #[.pointer none, v, .int .i64 5]) ∧ IsV w' (fun _ => True) V.zero v ∧ Below w.heap.size w w') ∨ ((0 ≤ i ∧ i < (l.length : Int)) ∧ ∃ b v, e = .returned (.tuple #[.pointer (some ⟨b, 0, none⟩), v, .int .i64 0]) ∧ IsE w' (fun _ => True) (remL l i.toNat) b ∧ IsV w' (fun _ => True) (itemAt l i.toNat) v ∧ Below w.heap.size w w') := by
  obtain ⟨w1, hw1, hB1, hsz, hb0⟩ := box0 w 33 (.int .i64 0) (.int .i64 0) (.string ⟨#[]⟩) (.slice none 0 0)
  have HAT := dat_calls l _ i w1 S (h.below hB1) hi0 hi1
  have HD := Lib.hid (h.below hB1)
  have HT := Lib.hid hT
  have HOK := Lib.hid hok
  have h65 := listE_len hok
  have HB0 := Lib.hid hb0
  clear h hT hok hb0
  by_cases hin : 0 ≤ i ∧ i < (l.length : Int)
  · obtain ⟨j, rfl⟩ : ∃ j : Nat, i = (j : Int) := ⟨i.toNat, by omega⟩
    have hjl : j < l.length := by omega
    have hj2 : (j : Int) ≤ (l.length : Int) := by omega
    have hn : nthV l (j : Int) = (itemAt l j, 0) := by unfold nthV; rw [if_pos (by omega)]; rfl
    rw [hn] at HAT
    have HAT := Lib.hid HAT
    have HIN := Lib.hid hin
    clear hin hn hi0 hi1
    go_enter Tryd.func60, Tryd.ntmps60
    go_wp2_with (first
      | (go_at_call 19; refine HAT.out.mono ?_; rintro e w2 ⟨v2, rfl, hv2, hb2⟩; obtain ⟨hbd, A2, c2, rfl, hc2, hA2⟩ := hv2.eq; obtain ⟨w3, hw3, hB3, hsz3, hb3⟩ := box0 w2 33 (.int .i64 0) (.int .i64 0) (.string ⟨#[]⟩) (.slice none 0 0); have fz3 := free4 hb3; obtain ⟨z0, z1, z2, z3⟩ := block4 hb3; obtain ⟨w4, hw4, hb4, hsz4, hot4, hB4⟩ := store_box hb3 (.int .i64 (itemAt l j).kind) (.int .i64 (itemAt l j).num) (.string (itemAt l j).text) (.slice A2 (itemAt l j).items.length c2); have hB24 := hB3.trans (hB4 _ (Nat.le_refl _)); have HB4 := Lib.hid hb4; have HX := Lib.hid (IsV.below hB24 hv2); have hlt2 : w2.heap.size < w3.heap.size := by omega))
    have HW := Lib.hid (items_list l _ w4 S ((HD.out.below hb2).below hB24))
    clear hv2 hb4 hb3 hA2 hB3 hot4 HAT z0 z1 z2 z3 fz3
    go_wp2_with (go_at_call 84; refine HW.out.mono ?_; rintro e w5 ⟨A, c, rfl, hc, hA, hb5⟩; have HA := Lib.hid hA)
    have hjc : (j : Int) ≤ (c : Int) := by omega
    have hjc2 : j ≤ c := by omega
    have hj1 : (j : Int) + 1 ≤ (l.length : Int) := by omega
    have hj1n : j + 1 ≤ l.length := by omega
    have hj1c : (j : Int) + 1 ≤ (c : Int) := by omega
    have hj1cn : j + 1 ≤ c := by omega
    have hlc : (l.length : Int) ≤ (c : Int) := by omega
    obtain ⟨ad, rfl⟩ : ∃ ad, A = some ad := by
      rcases hA with h | ⟨ad, h, _⟩
      · rw [h] at hjl; simp at hjl
      · exact ⟨ad, h⟩
    clear hA
    go_wp2_with (go_at_call 152; refine (spanitems_calls _ _).mono ?_; rintro e w6 ⟨rfl, hb6'⟩; have hb6 := below_then hb5 hb5.size hb6')
    have hX6 := blockB hb6 HB4.out
    have hB6 := chain_then (chain_then hB1 hb2) (chain_then hB24 hb6)
    have hR6 := blockB (chain_then hb2 (chain_then hB24 hb6)) HB0.out
    obtain ⟨x0, x1, x2, x3⟩ := block4 hX6
    obtain ⟨r0, r1, r2, r3⟩ := block4 hR6
    have fz := free4 hR6
    have HS1 : Hid (IsS w6 (fun _ => True) (l.take j) (.slice (some ad) j c)) := Lib.hid ⟨some ad, c, by rw [List.length_take, Nat.min_eq_left (by omega)], by rw [List.length_take]; omega, by rw [List.length_take]; omega, (HA.out.below hb6').take j⟩
    have hB6T := Lib.hid (tabs_below HT.out hB6)
    have HE := Lib.hid (remL_ok (i := j) HOK.out)
    unfold remL at HE
    obtain ⟨k, hk⟩ : ∃ k, j + 1 = k := ⟨_, rfl⟩
    have HK := Lib.hid hk
    rw [hk] at HE
    have i1 : IntKind.i64.wrap ((j : Int) + 1) = (k : Int) := by rw [← hk]; exact IntWalk.i64_in _ (by omega)
    have i3 : IntKind.i64.wrap (k : Int) = (k : Int) := IntWalk.i64_in _ (by omega)
    have k1 : (k : Int) ≤ (l.length : Int) := by omega
    have k2 : (k : Int) ≤ (c : Int) := by omega
    have k3 : k ≤ l.length := by omega
    have k4 : k ≤ c := by omega
    clear hj1 hj1n hj1c hj1cn hk
    have HB1 : Hid (∀ u W B, IsS w6 (fun _ => True) (l.drop (k)) u → Below w6.heap.size w6 W → W.heap[B]? = some (.cells #[.slice (some ad) j c, u] 22 (0, 0)) → Calls Tryd.prog 85 #[.slice (some ⟨B, 0, none⟩) 2 2] W fun e w' => ∃ b, e = .returned (.pointer (some ⟨b, 0, none⟩)) ∧ IsE w' (fun k => W.heap.size ≤ k) (l.take j ++ l.drop (k)) b ∧ Below W.heap.size W w') := Lib.hid fun u W B hu hb hB => built_two' (HS1.out.below hb) (hu.below hb) hB HE.out (tabs_below hB6T.out hb)
    by_cases hcj : c = k
    · subst hcj
      have HS2 : Hid (IsS w6 (fun _ => True) (l.drop c) (.slice (some ad) (l.length - c) 0)) := Lib.hid ⟨some ad, 0, by rw [List.length_drop], by rw [List.length_drop]; omega, by rw [List.length_drop]; omega, .inl (List.length_eq_zero_iff.1 (by rw [List.length_drop]; omega))⟩
      have hne : w2.heap.size ≠ w.heap.size := by have := hb2.size; omega
      have hR7 := (Array.getElem?_eq_some_iff.1 hR6).1
      clear HW HA HS1 HE HB4 HAT HOK HD hX6 h65 hc hjl r0 r1 r2 r3
      go_region_held3 (fun w' => w'.cell? ⟨w2.heap.size, 0, none⟩ = some (.int .i64 (itemAt l j).kind) ∧ w'.cell? ⟨w2.heap.size, 1, none⟩ = some (.int .i64 (itemAt l j).num) ∧ w'.cell? ⟨w2.heap.size, 2, none⟩ = some (.string (itemAt l j).text) ∧ w'.cell? ⟨w2.heap.size, 3, none⟩ = some (.slice A2 (itemAt l j).items.length c2) ∧ w'.frozen? ⟨w.heap.size, 0, none⟩ = false ∧ w'.frozen? ⟨w.heap.size, 1, none⟩ = false ∧ w'.frozen? ⟨w.heap.size, 2, none⟩ = false ∧ w'.frozen? ⟨w.heap.size, 3, none⟩ = false ∧ w.heap.size < w'.heap.size)
        (first | with_reducible exact keep8s hne (by assumption) | exact keep8 (by first | exact drew_of (alloc_of (Below.refl _ _) _) | exact alloc_of (Below.refl _ _) _ | exact drew_of (Below.refl _ _) | assumption) (by assumption) | go_keep)
        (first
          | (go_at_call 85; refine (HB1.out _ _ _ HS2.out (by (repeat (first | exact Below.refl _ _ | refine drew_of ?_ | refine alloc_of ?_ _))) (by first | exact heap_alloc_new _ _)).mono ?_; rintro e w7 ⟨b7, rfl, hv7, hb7⟩; have HV7 := Lib.hid hv7; have hk7 := blockB (chain_then (drew_of (alloc_of (Below.refl _ _) _)) hb7) hR6; obtain ⟨r0, r1, r2, r3⟩ := block4 hk7; have HK7 := Lib.hid hk7; clear hk7 hv7 HB1))
      obtain ⟨w8, hw8, hk8, hs8, hot8, hB8⟩ := store_box (w := w7) HK7.out (.int .i64 (itemAt l j).kind) (.int .i64 (itemAt l j).num) (.string (itemAt l j).text) (.slice A2 (itemAt l j).items.length c2)
      rw [hw8]
      obtain ⟨f0, f1, f2, f3⟩ := block4 hk8
      have hb67 := chain_then (drew_of (alloc_of (Below.refl _ _) _)) hb7
      have hb8 := (chain_then hB6 hb67).trans (hB8 _ (Nat.le_refl _))
      have hsa := hb2.size
      have hsb := hB24.size
      have hsc := hb6.size
      go_wp2_with fail
      refine bodyPost_ret (v := .tuple #[.pointer (some ⟨b7, 0, none⟩), .agg #[.int .i64 (itemAt l j).kind, .int .i64 (itemAt l j).num, .string (itemAt l j).text, .slice A2 (itemAt l j).items.length c2], .int .i64 0]) (by simp [results, Tryd.results60, go_sem, f0, f1, f2, f3]) rfl (.inr ⟨HIN.out, _, _, rfl, ?_, ?_, hb8⟩)
      · have h := HV7.out
        rw [show l.take j ++ l.drop c = remL l (j : Int).toNat by unfold remL; rw [← HK.out]; rfl] at h
        exact h.keep fun b hb (h : _ ≤ b) => ⟨trivial, hot8 b (by have : w6.heap.size ≤ b := Nat.le_trans (by simp) h; omega)⟩
      · exact HX.out.keep fun b hb (h : w1.heap.size ≤ b) => ⟨trivial, (hot8 b (by omega)).trans ((chain_then hb6 hb67).block b hb)⟩
    · have HS2 : Hid (IsS w6 (fun _ => True) (l.drop (k)) (.slice (some (ad.add ((k) * 4))) (l.length - (k)) (c - (k)))) := Lib.hid ⟨_, c - (k), by rw [List.length_drop], by rw [List.length_drop]; omega, by rw [List.length_drop]; omega, (HA.out.below hb6').drop (k)⟩
      have hne : w2.heap.size ≠ w.heap.size := by have := hb2.size; omega
      have hR7 := (Array.getElem?_eq_some_iff.1 hR6).1
      clear HW HA HS1 HE HB4 HAT HOK HD hX6 h65 hc hjl r0 r1 r2 r3
      go_region_held3 (fun w' => w'.cell? ⟨w2.heap.size, 0, none⟩ = some (.int .i64 (itemAt l j).kind) ∧ w'.cell? ⟨w2.heap.size, 1, none⟩ = some (.int .i64 (itemAt l j).num) ∧ w'.cell? ⟨w2.heap.size, 2, none⟩ = some (.string (itemAt l j).text) ∧ w'.cell? ⟨w2.heap.size, 3, none⟩ = some (.slice A2 (itemAt l j).items.length c2) ∧ w'.frozen? ⟨w.heap.size, 0, none⟩ = false ∧ w'.frozen? ⟨w.heap.size, 1, none⟩ = false ∧ w'.frozen? ⟨w.heap.size, 2, none⟩ = false ∧ w'.frozen? ⟨w.heap.size, 3, none⟩ = false ∧ w.heap.size < w'.heap.size)
        (first | with_reducible exact keep8s hne (by assumption) | exact keep8 (by first | exact drew_of (alloc_of (Below.refl _ _) _) | exact alloc_of (Below.refl _ _) _ | exact drew_of (Below.refl _ _) | assumption) (by assumption) | go_keep)
        (first
          | (go_at_call 85; refine (HB1.out _ _ _ HS2.out (by (repeat (first | exact Below.refl _ _ | refine drew_of ?_ | refine alloc_of ?_ _))) (by first | exact heap_alloc_new _ _)).mono ?_; rintro e w7 ⟨b7, rfl, hv7, hb7⟩; have HV7 := Lib.hid hv7; have hk7 := blockB (chain_then (drew_of (alloc_of (Below.refl _ _) _)) hb7) hR6; obtain ⟨r0, r1, r2, r3⟩ := block4 hk7; have HK7 := Lib.hid hk7; clear hk7 hv7 HB1))
      obtain ⟨w8, hw8, hk8, hs8, hot8, hB8⟩ := store_box (w := w7) HK7.out (.int .i64 (itemAt l j).kind) (.int .i64 (itemAt l j).num) (.string (itemAt l j).text) (.slice A2 (itemAt l j).items.length c2)
      rw [hw8]
      obtain ⟨f0, f1, f2, f3⟩ := block4 hk8
      have hb67 := chain_then (drew_of (alloc_of (Below.refl _ _) _)) hb7
      have hb8 := (chain_then hB6 hb67).trans (hB8 _ (Nat.le_refl _))
      have hsa := hb2.size
      have hsb := hB24.size
      have hsc := hb6.size
      go_wp2_with fail
      refine bodyPost_ret (v := .tuple #[.pointer (some ⟨b7, 0, none⟩), .agg #[.int .i64 (itemAt l j).kind, .int .i64 (itemAt l j).num, .string (itemAt l j).text, .slice A2 (itemAt l j).items.length c2], .int .i64 0]) (by simp [results, Tryd.results60, go_sem, f0, f1, f2, f3]) rfl (.inr ⟨HIN.out, _, _, rfl, ?_, ?_, hb8⟩)
      · have h := HV7.out
        rw [show l.take j ++ l.drop k = remL l (j : Int).toNat by unfold remL; rw [← HK.out]; rfl] at h
        exact h.keep fun b hb (h : _ ≤ b) => ⟨trivial, hot8 b (by have : w6.heap.size ≤ b := Nat.le_trans (by simp) h; omega)⟩
      · exact HX.out.keep fun b hb (h : w1.heap.size ≤ b) => ⟨trivial, (hot8 b (by omega)).trans ((chain_then hb6 hb67).block b hb)⟩
  · have hn : nthV l i = (V.zero, 5) := by unfold nthV; rw [if_neg hin]
    rw [hn] at HAT
    have HAT := Lib.hid HAT
    have HIN := Lib.hid hin
    clear hin hn
    go_enter Tryd.func60, Tryd.ntmps60
    go_wp2_with (first
      | (go_at_call 19; refine HAT.out.mono ?_; rintro e w2 ⟨v2, rfl, hv2, hb2⟩; obtain ⟨hbd, A2, c2, rfl, hc2, hA2⟩ := hv2.eq; obtain ⟨w3, hw3, hB3, hsz3, hb3⟩ := box0 w2 33 (.int .i64 0) (.int .i64 0) (.string ⟨#[]⟩) (.slice none 0 0); have fz3 := free4 hb3; obtain ⟨z0, z1, z2, z3⟩ := block4 hb3; obtain ⟨w4, hw4, hb4, hsz4, hot4, hB4⟩ := store_box hb3 (.int .i64 V.zero.kind) (.int .i64 V.zero.num) (.string V.zero.text) (.slice A2 V.zero.items.length c2); have hB24 := hB3.trans (hB4 _ (Nat.le_refl _)); have HB4 := Lib.hid hb4; have HX := Lib.hid (IsV.below hB24 hv2); have hk4 := blockB (chain_then hb2 hB24) HB0.out; obtain ⟨r0, r1, r2, r3⟩ := block4 hk4; have fzr := free4 hk4; obtain ⟨w5, hw5, hk5, hs5, hot5, hB5⟩ := store_box hk4 (.int .i64 0) (.int .i64 0) (.string ⟨#[]⟩) (.slice none 0 0); have hb5 := (chain_then (chain_then hB1 hb2) hB24).trans (hB5 _ (Nat.le_refl _)); obtain ⟨g0, g1, g2, g3⟩ := block4 hk5))
    refine bodyPost_ret (v := .tuple #[.pointer none, .agg #[.int .i64 0, .int .i64 0, .string ⟨#[]⟩, .slice none 0 0], .int .i64 5]) (by simp [results, Tryd.results60, go_sem, g0, g1, g2, g3]) rfl (.inl ⟨HIN.out, _, rfl, ?_, hb5⟩)
    exact IsV.mk (x := V.zero) (A := none) (cap := 0) zero_bd (by simp [V.zero, V.items]) (.inl rfl)
end Go.Proofs.YtjjbhnkplbjfeaaDoor

/- An item put between. -/
set_option linter.unusedVariables false
set_option linter.unusedSimpArgs false
namespace Go.Proofs.YtjjbhnkplbjfeaaDoor
open Go.RowKit
attribute [local go_sem] lt_succ_of methWeight methItems

set_option maxRecDepth 100000 in
set_option maxHeartbeats 4000000 in
theorem insert_calls (l : List V) (p : Option Addr) (i : Int) (x : V) (vx : Value) (w : World) (S : Nat → Prop) (h : IsD w S l p) (hx : IsV w S x vx) (hok : listE l = 0) (hT : Lib.Utf8Tabs 1 2 w) :
    Calls Tryd.prog 58 #[.pointer p, .int .i64 i, vx] w fun e w' => (insE l i x ≠ 0 ∧ e = .returned (.tuple #[.pointer none, .int .i64 (insE l i x)]) ∧ Below w.heap.size w w') ∨ (insE l i x = 0 ∧ ∃ b, e = .returned (.tuple #[.pointer (some ⟨b, 0, none⟩), .int .i64 0]) ∧ IsE w' (fun _ => True) (insL l i.toNat x) b ∧ Below w.heap.size w w') := by
  obtain ⟨hbx, Ax, cx, rfl, hcx, hAx⟩ := hx.eq
  obtain ⟨w1, hw1, hB1, hsz, hb0⟩ := box0 w 33 (.int .i64 x.kind) (.int .i64 x.num) (.string x.text) (.slice Ax x.items.length cx)
  obtain ⟨e0, e1, e2, e3⟩ := block4 hb0
  have hX1 := hx.below hB1
  have HCK := check_calls x _ w1 S hX1 (tabs_below hT hB1)
  have HX := Lib.hid ((VC.mk hbx hcx hAx).keep (Keeps.below hB1))
  have HD := Lib.hid (h.below hB1)
  have HT := Lib.hid (tabs_below hT hB1)
  have HOK := Lib.hid hok
  have h65 := listE_len hok
  have HB0 := Lib.hid hb0
  clear h hT hok hb0 hx hX1 hAx
  by_cases hr : rightB x = true
  · rw [if_pos hr] at HCK
    have HCK := Lib.hid HCK
    by_cases hin : 0 ≤ i ∧ i ≤ (l.length : Int)
    · obtain ⟨j, rfl⟩ : ∃ j : Nat, i = (j : Int) := ⟨i.toNat, by omega⟩
      by_cases hfull : l.length = 65536
      · have hE : insE l (j : Int) x = 2 := by unfold insE; rw [if_pos hr, if_pos hin, if_pos hfull]
        rw [hE]
        have hq : ((l.length : Int) == 65536) = true := by simp; omega
        have HIN := Lib.hid hin
        clear hin hr hfull
        go_enter Tryd.func58, Tryd.ntmps58
        go_wp2_with (first
          | (go_at_call 77; refine HCK.out.mono ?_; rintro e w2 ⟨rfl, hb2⟩; have HL := Lib.hid (len_calls l p w2 S (HD.out.below hb2)); have HEN := ends_calls l p (j : Int) (l.length : Int) w2 S (HD.out.below hb2); rw [decide_eq_true (show 0 ≤ (j : Int) ∧ (j : Int) ≤ (l.length : Int) ∧ (l.length : Int) ≤ (l.length : Int) from ⟨HIN.out.1, HIN.out.2, Int.le_refl _⟩)] at HEN; have HEN := Lib.hid HEN)
          | (go_at_call 33; refine HL.out.mono ?_; rintro e w3 ⟨rfl, rfl⟩)
          | (go_at_call 89; refine HEN.out.mono ?_; rintro e w3 ⟨rfl, rfl⟩))
        go_ret2
        exact .inl ⟨by decide, rfl, chain_then hB1 hb2⟩
      · have hE : insE l (j : Int) x = 0 := by unfold insE; rw [if_pos hr, if_pos hin, if_neg hfull]
        rw [hE]
        have hq : ((l.length : Int) == 65536) = false := by rw [beq_eq_false_iff_ne]; omega
        have HIN := Lib.hid hin
        have HOI := Lib.hid (insL_ok (i := j) HOK.out hr (by omega))
        have hj : j ≤ l.length := by omega
        have hj2 : (j : Int) ≤ (l.length : Int) := by omega
        clear hin hr hfull
        go_enter Tryd.func58, Tryd.ntmps58
        go_wp2_with (first
          | (go_at_call 77; refine HCK.out.mono ?_; rintro e w2 ⟨rfl, hb2⟩; have HL := Lib.hid (len_calls l p w2 S (HD.out.below hb2)); have HEN := ends_calls l p (j : Int) (l.length : Int) w2 S (HD.out.below hb2); rw [decide_eq_true (show 0 ≤ (j : Int) ∧ (j : Int) ≤ (l.length : Int) ∧ (l.length : Int) ≤ (l.length : Int) from ⟨HIN.out.1, HIN.out.2, Int.le_refl _⟩)] at HEN; have HEN := Lib.hid HEN)
          | (go_at_call 33; refine HL.out.mono ?_; rintro e w3 ⟨rfl, rfl⟩)
          | (go_at_call 89; refine HEN.out.mono ?_; rintro e w3 ⟨rfl, rfl⟩))
        have HW := Lib.hid (items_list l _ w2 S (HD.out.below hb2))
        go_wp2_with (go_at_call 84; refine HW.out.mono ?_; rintro e w5 ⟨A, c, rfl, hc, hA, hb5⟩; have HA := Lib.hid hA)
        clear hA
        go_wp2_with (go_at_call 152; refine (spanitems_calls _ _).mono ?_; rintro e w6 ⟨rfl, hb6'⟩; have hb6 := below_then hb5 hb5.size hb6')
        have hk6 := blockB (chain_then hb2 hb6) HB0.out
        obtain ⟨x0, x1, x2, x3⟩ := block4 hk6
        have hB16 := chain_then (chain_then hB1 hb2) hb6
        have HB : Hid (∀ u1 u3 W B B', IsS w6 (fun _ => True) (l.take j) u1 → IsS w6 (fun _ => True) (l.drop j) u3 → Below w6.heap.size w6 W → W.heap[B']? = some (.cells #[.int .i64 x.kind, .int .i64 x.num, .string x.text, .slice Ax x.items.length cx] 33 (0, 0)) → W.heap[B]? = some (.cells #[u1, .slice (some ⟨B', 0, none⟩) 1 1, u3] 22 (0, 0)) → Calls Tryd.prog 85 #[.slice (some ⟨B, 0, none⟩) 3 3] W fun e w' => ∃ b, e = .returned (.pointer (some ⟨b, 0, none⟩)) ∧ IsE w' (fun _ => True) (insL l (j : Int).toNat x) b ∧ Below W.heap.size W w') := Lib.hid fun u1 u3 W B B' h1 h3 hb hx hB =>
          built_three (h1.below hb) (IsS.single (x := x) hx trivial (HX.out.keep fun b h1 h2 => ⟨trivial, (chain_then (chain_then hb2 hb6) hb).block b h1⟩)) (h3.below hb) hB HOI.out (tabs_below HT.out (chain_then (chain_then hb2 hb6) hb))
        have hjc : (j : Int) ≤ (c : Int) := by omega
        have hjc2 : j ≤ c := by omega
        have hlc : (l.length : Int) ≤ (c : Int) := by omega
        have HA4 := Lib.hid (HA.out.below hb6')
        have hcase : (∃ ad, A = some ad ∧ c ≠ j) ∨ (∃ ad, A = some ad ∧ c = j) ∨ A = none := by
          cases A with
          | none => exact .inr (.inr rfl)
          | some ad => by_cases hcj : c = j
                       · exact .inr (.inl ⟨ad, rfl, hcj⟩)
                       · exact .inl ⟨ad, rfl, hcj⟩
        rcases hcase with ⟨ad, rfl, hcj⟩ | ⟨ad, rfl, rfl⟩ | rfl
        · have HS1 : Hid (IsS w6 (fun _ => True) (l.take j) (.slice (some ad) j c)) := Lib.hid ⟨_, c, by rw [List.length_take, Nat.min_eq_left hj], by rw [List.length_take]; omega, by rw [List.length_take]; omega, HA4.out.take j⟩
          have HS2 : Hid (IsS w6 (fun _ => True) (l.drop j) (.slice (some (ad.add (j * 4))) (l.length - j) (c - j))) := Lib.hid ⟨_, c - j, by rw [List.length_drop], by rw [List.length_drop]; omega, by rw [List.length_drop]; omega, HA4.out.drop j⟩
          clear h65 HA HA4 hc hj hk6 HW HL HEN HCK HX
          go_region_held3 (fun w' => w'.cell? ⟨w.heap.size, 0, none⟩ = some (.int .i64 x.kind) ∧ w'.cell? ⟨w.heap.size, 1, none⟩ = some (.int .i64 x.num) ∧ w'.cell? ⟨w.heap.size, 2, none⟩ = some (.string x.text) ∧ w'.cell? ⟨w.heap.size, 3, none⟩ = some (.slice Ax x.items.length cx))
            (first | exact cells4B (by first | exact drew_of (alloc_of (Below.refl _ _) _) | exact alloc_of (Below.refl _ _) _ | exact drew_of (Below.refl _ _) | assumption) (by assumption) | go_keep)
            (first
              | (go_at_call 85; refine (HB.out _ _ _ _ _ HS1.out HS2.out (by (repeat (first | exact Below.refl _ _ | refine drew_of ?_ | refine alloc_of ?_ _))) (by exact two_boxes _ _ _) (by exact two_boxes' _ _ _)).mono ?_; rintro e w7 ⟨b7, rfl, hv7, hb7⟩; have HV7 := Lib.hid hv7; clear hv7 HB))
          go_wp2_with fail
          go_ret2
          exact .inr ⟨trivial, _, rfl, HV7.out, chain_then hB16 (chain_then (by (repeat (first | exact Below.refl _ _ | refine drew_of ?_ | refine alloc_of ?_ _))) hb7)⟩
        · have HS1 : Hid (IsS w6 (fun _ => True) (l.take c) (.slice (some ad) c c)) := Lib.hid ⟨some ad, c, by rw [List.length_take, Nat.min_eq_left (by omega)], by rw [List.length_take]; omega, by rw [List.length_take]; omega, HA4.out.take _⟩
          have HS2 : Hid (IsS w6 (fun _ => True) (l.drop c) (.slice (some ad) (l.length - c) 0)) := Lib.hid ⟨some ad, 0, by rw [List.length_drop], by rw [List.length_drop]; omega, by rw [List.length_drop]; omega, .inl (List.length_eq_zero_iff.1 (by rw [List.length_drop]; omega))⟩
          clear h65 HA HA4 hc hj hk6 HW HL HEN HCK HX
          go_region_held3 (fun w' => w'.cell? ⟨w.heap.size, 0, none⟩ = some (.int .i64 x.kind) ∧ w'.cell? ⟨w.heap.size, 1, none⟩ = some (.int .i64 x.num) ∧ w'.cell? ⟨w.heap.size, 2, none⟩ = some (.string x.text) ∧ w'.cell? ⟨w.heap.size, 3, none⟩ = some (.slice Ax x.items.length cx))
            (first | exact cells4B (by first | exact drew_of (alloc_of (Below.refl _ _) _) | exact alloc_of (Below.refl _ _) _ | exact drew_of (Below.refl _ _) | assumption) (by assumption) | go_keep)
            (first
              | (go_at_call 85; refine (HB.out _ _ _ _ _ HS1.out HS2.out (by (repeat (first | exact Below.refl _ _ | refine drew_of ?_ | refine alloc_of ?_ _))) (by exact two_boxes _ _ _) (by exact two_boxes' _ _ _)).mono ?_; rintro e w7 ⟨b7, rfl, hv7, hb7⟩; have HV7 := Lib.hid hv7; clear hv7 HB))
          go_wp2_with fail
          go_ret2
          exact .inr ⟨trivial, _, rfl, HV7.out, chain_then hB16 (chain_then (by (repeat (first | exact Below.refl _ _ | refine drew_of ?_ | refine alloc_of ?_ _))) hb7)⟩
        · obtain rfl : l = [] := by rcases HA4.out with h | ⟨ad, h, _⟩; exact h; cases h
          obtain rfl : j = 0 := by simpa using hj
          have HS1 : Hid (∀ x, IsS w6 (fun _ => True) (([] : List V).take 0) (.slice none 0 x)) := Lib.hid fun x => ⟨none, x, by simp, by simp, by simp, .inl (by simp)⟩
          have HS2 : Hid (∀ x, IsS w6 (fun _ => True) (([] : List V).drop 0) (.slice none 0 x)) := Lib.hid fun x => ⟨none, x, by simp, by simp, by simp, .inl (by simp)⟩
          clear h65 HA HA4 hc hj hk6 HW HL HEN HCK HX
          go_region_held3 (fun w' => w'.cell? ⟨w.heap.size, 0, none⟩ = some (.int .i64 x.kind) ∧ w'.cell? ⟨w.heap.size, 1, none⟩ = some (.int .i64 x.num) ∧ w'.cell? ⟨w.heap.size, 2, none⟩ = some (.string x.text) ∧ w'.cell? ⟨w.heap.size, 3, none⟩ = some (.slice Ax x.items.length cx))
            (first | exact cells4B (by first | exact drew_of (alloc_of (Below.refl _ _) _) | exact alloc_of (Below.refl _ _) _ | exact drew_of (Below.refl _ _) | assumption) (by assumption) | go_keep)
            (first
              | (go_at_call 85; refine (HB.out _ _ _ _ _ (HS1.out _) (HS2.out _) (by (repeat (first | exact Below.refl _ _ | refine drew_of ?_ | refine alloc_of ?_ _))) (by exact two_boxes _ _ _) (by exact two_boxes' _ _ _)).mono ?_; rintro e w7 ⟨b7, rfl, hv7, hb7⟩; have HV7 := Lib.hid hv7; clear hv7 HB))
          go_wp2_with fail
          go_ret2
          exact .inr ⟨trivial, _, rfl, HV7.out, chain_then hB16 (chain_then (by (repeat (first | exact Below.refl _ _ | refine drew_of ?_ | refine alloc_of ?_ _))) hb7)⟩
    · have hE : insE l i x = 5 := by unfold insE; rw [if_pos hr, if_neg hin]
      rw [hE]
      have HIN := Lib.hid hin
      clear hin hr
      go_enter Tryd.func58, Tryd.ntmps58
      go_wp2_with (first
        | (go_at_call 77; refine HCK.out.mono ?_; rintro e w2 ⟨rfl, hb2⟩; have HL := Lib.hid (len_calls l p w2 S (HD.out.below hb2)); have HEN := ends_calls l p i (l.length : Int) w2 S (HD.out.below hb2); rw [decide_eq_false (show ¬ (0 ≤ i ∧ i ≤ (l.length : Int) ∧ (l.length : Int) ≤ (l.length : Int)) from fun h => HIN.out ⟨h.1, h.2.1⟩)] at HEN; have HEN := Lib.hid HEN)
        | (go_at_call 33; refine HL.out.mono ?_; rintro e w3 ⟨rfl, rfl⟩)
        | (go_at_call 89; refine HEN.out.mono ?_; rintro e w3 ⟨rfl, rfl⟩))
      go_ret2
      exact .inl ⟨by decide, rfl, chain_then hB1 hb2⟩
  · have hE : insE l i x = 3 := by unfold insE; rw [if_neg hr]
    rw [hE]
    rw [if_neg hr] at HCK
    have HCK := Lib.hid HCK
    clear hr
    go_enter Tryd.func58, Tryd.ntmps58
    go_wp2_with (first
      | (go_at_call 77; refine HCK.out.mono ?_; rintro e w2 ⟨rfl, hb2⟩))
    go_ret2
    exact .inl ⟨by decide, rfl, chain_then hB1 hb2⟩
end Go.Proofs.YtjjbhnkplbjfeaaDoor
