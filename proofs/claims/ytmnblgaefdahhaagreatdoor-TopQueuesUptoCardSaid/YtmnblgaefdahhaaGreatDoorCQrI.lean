/- What is taken from a queue. What comes out of a queue, one by one. -/
import Derived.Handy
import Derived.Test.YtmnblgaefdahhaaGreatDoorCQrF
/- What is taken from a queue. -/
set_option linter.unusedVariables false
set_option linter.unusedSimpArgs false
namespace Go.Proofs.YtmnblgaefdahhaaGreatDoor
open Go.RowKit Go.Shelf
attribute [local go_sem] lt_succ_of

theorem qlen_calls (o : Nat) (h : Option Hp) (p : Option Addr) (w : World) (S : Nat → Prop) (hq : IsQ w S o h p) : Calls Tryz.prog 21 #[.pointer p] w fun e w' => e = .returned (.int .i64 ((itemsO h).length : Nat)) ∧ w = w' := by
  obtain ⟨b, q, rfl, hsb, hlb, q0, q1, q2, hh⟩ := hq
  clear hh hsb
  go_enter Tryz.func21, Tryz.ntmps21
  go_wp2_with (go_at_call 25; refine (some_calls _ _).mono ?_; rintro e w3 ⟨rfl, rfl⟩)
  go_ret
  exact ⟨rfl, rfl⟩
set_option maxRecDepth 100000 in
theorem qmin_calls (o : Nat) (h : Hp) (p : Option Addr) (w : World) (S : Nat → Prop) (hq : IsQ w S o (some h) p) : Calls Tryz.prog 37 #[.pointer p] w fun e w' => ∃ v, e = .returned (.tuple #[v, .int .i64 0]) ∧ IsV w' (fun b => w.heap.size ≤ b) h.x v ∧ Below w.heap.size w w' := by
  obtain ⟨b, q, rfl, hsb, hlb, q0, q1, q2, hh⟩ := hq
  have hh2 : IsH w S h q := hh
  obtain ⟨bh, A, ca, kq, rfl, hsh, hlh, hbx, a0, a1, a2, a3, hca, hA, a4, hk⟩ := hh2.eq
  obtain ⟨w1, hw1, hB1', hsz, hb0⟩ := box1d w (.int .i64 0) (.int .i64 0) (.string ⟨#[]⟩) (.slice none 0 0) 39
  have hB1 := hB1'.below
  obtain ⟨e0, e1, e2, e3⟩ := block4 hb0
  have HOWN := Lib.hid (ownq_calls h.x _ w1 S ((IsV.mk hbx hca hA).below hB1))
  have HBK := Lib.hid hb0
  have HBX := Lib.hid hbx
  have q2' := cellB hB1 q2
  have a0' := cellB hB1 a0
  have a1' := cellB hB1 a1
  have a2' := cellB hB1 a2
  have a3' := cellB hB1 a3
  have hlb1 := Nat.lt_of_lt_of_le hlb hB1.size
  have hlh1 := Nat.lt_of_lt_of_le hlh hB1.size
  clear hh hsb hh2 hsh hbx hA hk q0 q1 q2 a0 a1 a2 a3 a4 hb0 hB1'
  go_enter Tryz.func37, Tryz.ntmps37
  go_wp2_with (first
    | (go_at_call 25; refine (some_calls _ _).mono ?_; rintro e w3 ⟨rfl, rfl⟩)
    | (go_at_call 27; refine HOWN.out.mono ?_; rintro e w3 ⟨v3, rfl, hv3, hb3⟩; obtain ⟨_, A3, c3, rfl, hc3, hA3⟩ := hv3.eq; have HV3 := Lib.hid (And.intro hc3 hA3); have e0' := cellB hb3 e0; have e1' := cellB hb3 e1; have e2' := cellB hb3 e2; have e3' := cellB hb3 e3; have fz := free4 (blockB hb3 HBK.out); have hbr := chain_then hB1 hb3; have hs3 := hb3.size; clear hv3 hA3 hc3 e0 e1 e2 e3))
  refine bodyPost_ret (v := .tuple #[.agg #[.int .i64 h.x.kind, .int .i64 h.x.num, .string h.x.text, .slice A3 h.x.items.length c3], .int .i64 0]) (by simp [results, Tryz.results37, go_sem, e0', e1', e2', e3']) rfl ⟨_, rfl, ?_, ?_⟩
  · have hn : ∀ b, b < w1.heap.size → ¬ (fun b => w1.heap.size ≤ b) b := fun b h (h' : w1.heap.size ≤ b) => by omega
    refine IsV.mk HBX.out HV3.out.1 ((LA.keep (S := fun b => w1.heap.size ≤ b) (S' := fun b => w1.heap.size ≤ b) ?_ HV3.out.2).keep (Keeps.weak fun b (h : w1.heap.size ≤ b) => show w.heap.size ≤ b by omega))
    repeat refine Keeps.set_after ?_ (hn _ hsz) _
    exact Keeps.refl _ _
  · repeat refine Below.setCell ?_ (by simp) _
    exact hbr
theorem store_box {w : World} {b0 : Nat} {c0 c1 c2 c3 : Value} {t : TypeId} (h : w.heap[b0]? = some (.cells #[c0, c1, c2, c3] t (0, 0))) (d0 d1 d2 d3 : Value) :
    ∃ w5, (((w.setCell ⟨b0, 0, none⟩ d0).setCell ⟨b0, 1, none⟩ d1).setCell ⟨b0, 2, none⟩ d2).setCell ⟨b0, 3, none⟩ d3 = w5 ∧ w5.heap[b0]? = some (.cells #[d0, d1, d2, d3] t (0, 0)) ∧ w5.heap.size = w.heap.size ∧ (∀ b, b ≠ b0 → w5.heap[b]? = w.heap[b]?) ∧ ∀ B, B ≤ b0 → Below B w w5 := by
  refine ⟨_, rfl, ?_, by simp, fun b hb => ?_, fun B hB => ?_⟩
  · have h1 := blockset h 0 d0
    have h2 := blockset h1 1 d1
    have h3 := blockset h2 2 d2
    have h4 := blockset h3 3 d3
    simpa using h4
  · rw [Below.heap_setCell _ _ _ _ hb, Below.heap_setCell _ _ _ _ hb, Below.heap_setCell _ _ _ _ hb, Below.heap_setCell _ _ _ _ hb]
  · repeat refine Below.setCell ?_ hB _
    exact Below.refl _ _

theorem frozenB {w w' : World} (hb : Below w.heap.size w w') {b n : Nat} (hl : b < w.heap.size) (h : w.frozen? ⟨b, n, none⟩ = false) : w'.frozen? ⟨b, n, none⟩ = false := by
  unfold World.frozen? at h ⊢
  rw [hb.block b hl]
  exact h
theorem two_le_items (c : V → V → Int) : ∀ l : List Hp, (twoH c l).length ≤ (itemsHs l).length
  | [] => Nat.zero_le _
  | [a] => by
    show 1 ≤ (itemsH a ++ []).length
    rw [List.append_nil, itemsH_eq, List.length_cons]
    omega
  | a :: b :: t => by
    have ih := two_le_items c t
    show (twoH c t).length + 1 ≤ (itemsH a ++ (itemsH b ++ itemsHs t)).length
    rw [List.length_append, List.length_append, itemsH_eq a, List.length_cons]
    omega
/-- What a pop looks at and writes to. -/
abbrev PP (b bh X R : Nat) (o n : Nat) (kq : Option Addr) (x : V) (A : Option Addr) (ca : Nat) (w : World) : Prop :=
  w.cell? ⟨b, 0, none⟩ = some (.int .i64 o) ∧ w.cell? ⟨b, 1, none⟩ = some (.int .i64 n) ∧ w.cell? ⟨b, 2, none⟩ = some (.pointer (some ⟨bh, 0, none⟩)) ∧ w.cell? ⟨bh, 4, none⟩ = some (.pointer kq) ∧
  w.cell? ⟨X, 0, none⟩ = some (.int .i64 x.kind) ∧ w.cell? ⟨X, 1, none⟩ = some (.int .i64 x.num) ∧ w.cell? ⟨X, 2, none⟩ = some (.string x.text) ∧ w.cell? ⟨X, 3, none⟩ = some (.slice A x.items.length ca) ∧
  w.frozen? ⟨R, 0, none⟩ = false ∧ w.frozen? ⟨R, 1, none⟩ = false ∧ w.frozen? ⟨R, 2, none⟩ = false ∧ w.frozen? ⟨R, 3, none⟩ = false ∧ R < w.heap.size
theorem PP.keep {b bh X R : Nat} {o n : Nat} {kq : Option Addr} {x : V} {A : Option Addr} {ca : Nat} {w w' : World} (h : PP b bh X R o n kq x A ca w) (hb : Below w.heap.size w w') : PP b bh X R o n kq x A ca w' := by
  obtain ⟨h0, h1, h2, h3, h4, h5, h6, h7, f0, f1, f2, f3, hl⟩ := h
  exact ⟨cellB hb h0, cellB hb h1, cellB hb h2, cellB hb h3, cellB hb h4, cellB hb h5, cellB hb h6, cellB hb h7, frozenB hb hl f0, frozenB hb hl f1, frozenB hb hl f2, frozenB hb hl f3, Nat.lt_of_lt_of_le hl hb.size⟩
theorem PP.sets {b bh X R : Nat} {o n : Nat} {kq : Option Addr} {x : V} {A : Option Addr} {ca : Nat} {W : World} {d0 d1 d2 d3 : Value} (hne : b ≠ R ∧ bh ≠ R ∧ X ≠ R) (h : PP b bh X R o n kq x A ca W) :
    PP b bh X R o n kq x A ca ((((W.setCell ⟨R, 0, none⟩ d0).setCell ⟨R, 1, none⟩ d1).setCell ⟨R, 2, none⟩ d2).setCell ⟨R, 3, none⟩ d3) := by
  obtain ⟨h0, h1, h2, h3, h4, h5, h6, h7, f0, f1, f2, f3, hl⟩ := h
  have hX : ∀ Y, Y ≠ R → ∀ n, ((((W.setCell ⟨R, 0, none⟩ d0).setCell ⟨R, 1, none⟩ d1).setCell ⟨R, 2, none⟩ d2).setCell ⟨R, 3, none⟩ d3).cell? ⟨Y, n, none⟩ = W.cell? ⟨Y, n, none⟩ := fun Y hY n => by
    have : ((((W.setCell ⟨R, 0, none⟩ d0).setCell ⟨R, 1, none⟩ d1).setCell ⟨R, 2, none⟩ d2).setCell ⟨R, 3, none⟩ d3).heap[Y]? = W.heap[Y]? := by
      rw [Below.heap_setCell _ _ _ _ hY, Below.heap_setCell _ _ _ _ hY, Below.heap_setCell _ _ _ _ hY, Below.heap_setCell _ _ _ _ hY]
    simp only [World.cell?, this]
  have hF : ∀ n, ((((W.setCell ⟨R, 0, none⟩ d0).setCell ⟨R, 1, none⟩ d1).setCell ⟨R, 2, none⟩ d2).setCell ⟨R, 3, none⟩ d3).frozen? ⟨R, n, none⟩ = W.frozen? ⟨R, n, none⟩ := fun n => by
    rw [World.frozen?_setCell, World.frozen?_setCell, World.frozen?_setCell, World.frozen?_setCell]
  exact ⟨by rw [hX _ hne.1]; exact h0, by rw [hX _ hne.1]; exact h1, by rw [hX _ hne.1]; exact h2, by rw [hX _ hne.2.1]; exact h3, by rw [hX _ hne.2.2]; exact h4, by rw [hX _ hne.2.2]; exact h5, by rw [hX _ hne.2.2]; exact h6, by rw [hX _ hne.2.2]; exact h7,
    by rw [hF]; exact f0, by rw [hF]; exact f1, by rw [hF]; exact f2, by rw [hF]; exact f3, by simp; exact hl⟩
set_option maxRecDepth 100000 in
set_option maxHeartbeats 1000000 in
theorem qpop_calls (o : Nat) (ho : o < 6) (h : Hp) (p : Option Addr) (w : World) (S : Nat → Prop) (hS : ∀ k, w.heap.size ≤ k → S k) (hq : IsQ w S o (some h) p) (hrt : RtO (some h)) (hlen : (itemsO (some h)).length ≤ 65536) (hT : Lib.Utf8Tabs 1 2 w) :
    Calls Tryz.prog 22 #[.pointer p] w fun e w' => ∃ p' v, e = .returned (.tuple #[.pointer p', v, .int .i64 0]) ∧ IsQ w' S o (pairedH (ordF o) h.kids) p' ∧ IsV w' (fun b => w.heap.size ≤ b) h.x v ∧ Below w.heap.size w w' := by
  have hq9 := hq
  obtain ⟨b, q, rfl, hsb, hlb, q0, q1, q2, hh⟩ := hq
  have hh2 : IsH w S h q := hh
  obtain ⟨bh, A, ca, kq, rfl, hsh, hlh, hbx, a0, a1, a2, a3, hca, hA, a4, hk⟩ := hh2.eq
  obtain ⟨w1, hw1, hB1', hsz, hb0⟩ := box1d w (.int .i64 0) (.int .i64 0) (.string ⟨#[]⟩) (.slice none 0 0) 39
  have hB1 := hB1'.below
  have HMIN := Lib.hid (qmin_calls o h _ w1 S (hq9.below hB1))
  have hn0 : (itemsO (some h)).length = (itemsO (pairedH (ordF o) h.kids)).length + 1 := by
    rw [(paired_perm (ordF o) h.kids).length_eq]
    show (itemsH h).length = _
    rw [itemsH_eq]
    rfl
  obtain ⟨n, hn⟩ : ∃ n, (itemsO (some h)).length = n := ⟨_, rfl⟩
  rw [hn] at hn0 q1 hlen
  have hsum : IntKind.i64.wrap ((n : Int) - 1) = (n : Int) - 1 := IntWalk.i64_in _ (by omega)
  have HN : Hid ((n : Int) - 1 = (itemsO (pairedH (ordF o) h.kids)).length) := Lib.hid (by omega)
  have HPR := Lib.hid (fun (W : World) (hb1 : Below w1.heap.size w1 W) (hb : Below w.heap.size w W) (X : Nat) (hX : W.cell? ⟨X, 0, none⟩ = some (.pointer (some ⟨b, 0, none⟩))) =>
    paired_calls (c := ordF o) h.kids kq _ _ W (fun m => S m ∧ m ≠ w.heap.size) (fun m hm => ⟨hS m (Nat.le_trans hb.size hm), by have := hb1.size; omega⟩) (hk.keep (Keeps.below_to hb fun m hm hs => ⟨hs, by omega⟩)) (fun x hx => hrt x (by show x ∈ itemsH h; rw [itemsH_eq]; exact List.mem_cons_of_mem _ hx)) (by_cf o ho X b W hX (cellB hb q0)) (tabs_below hT hb) (by
      have h1 : ∀ l : List Hp, (twoH (ordF o) l).length ≤ (itemsHs l).length := by
        intro l
        exact two_le_items _ l
      have h2 := h1 h.kids
      rw [← (paired_perm (ordF o) h.kids).length_eq] at h2
      omega))
  have HS1 := Lib.hid hS
  have HBX := Lib.hid hbx
  have HBK := Lib.hid hb0
  have HB1 := Lib.hid hB1
  have hne : b ≠ w.heap.size := by omega
  have hne2 : bh ≠ w.heap.size := by omega
  clear hh hsb hh2 hsh hbx hA a0 a1 a2 a3 hk hb0 hB1' hq9 hrt hT hS hlen hn hn0 hB1
  go_enter Tryz.func22, Tryz.ntmps22
  go_wp2_with (first
    | (go_at_call 37; refine HMIN.out.mono ?_; rintro e w2 ⟨v2, rfl, hv2, hb2⟩; obtain ⟨_, A3, c3, rfl, hc3, hA3⟩ := hv2.eq; have HV2 := Lib.hid (And.intro hc3 hA3); have HB2 := Lib.hid hb2; clear hv2 hc3 hA3 hb2))
  obtain ⟨w3, hw3, hB3', hsz3, hb3⟩ := box1d w2 (.int .i64 h.x.kind) (.int .i64 h.x.num) (.string h.x.text) (.slice A3 h.x.items.length c3) 39
  rw [hw3]
  have hB23 := Lib.hid (chain_then HB2.out hB3'.below)
  have hB3b := Lib.hid hB3'.below
  have hB03 := Lib.hid (chain_then HB1.out hB23.out)
  have hB13 := hB23
  have hR3 := Lib.hid (blockB hB23.out HBK.out)
  have hlt2 : w.heap.size < w2.heap.size := Nat.lt_of_lt_of_le hsz HB2.out.size
  have hne3 : w2.heap.size ≠ w.heap.size := by omega
  have hlt3 : w.heap.size < w3.heap.size := by omega
  have HPP : Hid (PP b bh w2.heap.size w.heap.size o n kq h.x A3 c3 w3) := Lib.hid (by
    obtain ⟨d0, d1, d2, d3⟩ := block4 hb3
    have hf := free4 hR3.out
    exact ⟨cellB hB03.out q0, cellB hB03.out q1, cellB hB03.out q2, cellB hB03.out a4, d0, d1, d2, d3, hf 0, hf 1, hf 2, hf 3, hlt3⟩)
  have HNE := Lib.hid (And.intro hne (And.intro hne2 hne3))
  have hlb3 := Nat.lt_of_lt_of_le hlb hB03.out.size
  have hlh3 := Nat.lt_of_lt_of_le hlh hB03.out.size
  have hbr : Below w3.heap.size w3 w3.drew := (Below.refl _ _).drew
  clear hw3 hw1 q0 q1 q2 a4 hB3' hb3 HMIN
  go_region_held3 (fun w' => w'.cell? ⟨b, 0, none⟩ = some (.int .i64 o) ∧ w'.cell? ⟨b, 1, none⟩ = some (.int .i64 n) ∧ w'.cell? ⟨b, 2, none⟩ = some (.pointer (some ⟨bh, 0, none⟩)) ∧ w'.cell? ⟨bh, 4, none⟩ = some (.pointer kq) ∧
      w'.cell? ⟨w2.heap.size, 0, none⟩ = some (.int .i64 h.x.kind) ∧ w'.cell? ⟨w2.heap.size, 1, none⟩ = some (.int .i64 h.x.num) ∧ w'.cell? ⟨w2.heap.size, 2, none⟩ = some (.string h.x.text) ∧ w'.cell? ⟨w2.heap.size, 3, none⟩ = some (.slice A3 h.x.items.length c3) ∧
      w'.frozen? ⟨w.heap.size, 0, none⟩ = false ∧ w'.frozen? ⟨w.heap.size, 1, none⟩ = false ∧ w'.frozen? ⟨w.heap.size, 2, none⟩ = false ∧ w'.frozen? ⟨w.heap.size, 3, none⟩ = false ∧ w.heap.size < w'.heap.size)
    (first | exact HPP.out.keep (by with_reducible assumption) | exact HPP.out.keep (alloc_of (by with_reducible assumption) _) | (refine PP.keep (w := ((((w5.setCell ⟨w.heap.size, 0, none⟩ (.int .i64 h.x.kind)).setCell ⟨w.heap.size, 1, none⟩ (.int .i64 h.x.num)).setCell ⟨w.heap.size, 2, none⟩ (.string h.x.text)).setCell ⟨w.heap.size, 3, none⟩ (.slice A3 h.x.items.length c3))) ?_ ((Below.refl _ _).alloc (Nat.le_refl _) _); exact PP.sets HNE.out (HPP.out.keep (by with_reducible assumption))))
    (first
      | (go_at_call 28; refine (by_calls _ _).mono ?_; rintro e w4 ⟨rfl, hx4, hb4⟩; have hbr := chain_then hbr hb4; have HMM := Lib.hid (HPR.out w4 (chain_then hB13.out hbr) (chain_then hB03.out hbr) _ hx4); clear hx4 hb4)
      | (go_at_call 38; refine HMM.out.mono ?_; rintro e w5 ⟨r5, rfl, hr5, hb5⟩; have hbr := chain_then hbr hb5; have HR5 := Lib.hid hr5; have hR5 := blockB hbr hR3.out; obtain ⟨e0, e1, e2, e3⟩ := block4 hR5; have HK5 := Lib.hid hR5; have hl5 := Nat.lt_of_lt_of_le hlt3 hbr.size; have hR6 := blockB ((Below.refl _ _).alloc (Nat.le_refl _) (.cells #[.int .i64 o, .int .i64 ((n : Int) - 1), .pointer r5] 65)) hR5; obtain ⟨g0, g1, g2, g3⟩ := block4 hR6; have hf6 := free4 hR6; have HK6 := Lib.hid hR6; have hf5 := free4 hR5; clear hr5 hb5 hR5 hR6 hf6))
  obtain ⟨w8, hw8, hk8, hs8, hot8, hB8⟩ := store_box (w := w5) HK5.out (.int .i64 h.x.kind) (.int .i64 h.x.num) (.string h.x.text) (.slice A3 h.x.items.length c3)
  rw [hw8, ← hs8]
  have hR8 := blockB ((Below.refl _ _).alloc (Nat.le_refl _) (.cells #[.int .i64 o, .int .i64 ((n : Int) - 1), .pointer r5] 65)) hk8
  obtain ⟨f0, f1, f2, f3⟩ := block4 hR8
  have hb05 := chain_then hB03.out hbr
  have hb25 := chain_then (hB3b.out) hbr
  have hb8 := hb05.trans (hB8 _ (Nat.le_refl _))
  go_wp2_with fail
  refine bodyPost_ret (v := .tuple #[.pointer (some ⟨w8.heap.size, 0, none⟩), .agg #[.int .i64 h.x.kind, .int .i64 h.x.num, .string h.x.text, .slice A3 h.x.items.length c3], .int .i64 0]) (by simp [results, Tryz.results22, go_sem, f0, f1, f2, f3]) rfl ⟨_, _, rfl, ?_, ?_, alloc_of hb8 _⟩
  · refine queue_new (HS1.out _ (by rw [hs8]; exact hb05.size)) ?_ _ HN.out _
    exact IsO.keep (fun m hm hs => ⟨hs.1, hot8 m hs.2⟩) HR5.out
  · refine IsV.mk HBX.out HV2.out.1 (LA.keep ?_ HV2.out.2)
    intro m hm (hs : w1.heap.size ≤ m)
    refine ⟨by omega, ?_⟩
    rw [Below.heap_alloc _ _ _ (by rw [hs8]; exact Nat.lt_of_lt_of_le hm hb25.size), hot8 m (by omega)]
    exact hb25.block m hm
end Go.Proofs.YtmnblgaefdahhaaGreatDoor

/- What comes out of a queue, one by one. -/
set_option linter.unusedVariables false
set_option linter.unusedSimpArgs false
namespace Go.Proofs.YtmnblgaefdahhaaGreatDoor
open Go.RowKit Go.Shelf
attribute [local go_sem] lt_succ_of

section
variable {ops : Array Oper} {rest : List Oper} {o : Oper} {a : Act} {Q : Exit → Act → World → Prop}
/-- append(v, x), x in the box that has just been made. -/
theorem append_oneW {W : World} (base : Nat) (S : Nat → Prop) (hgd : o.guard = none) (s x : Operand) (ho : o.op = .call { callee := .builtin .append, args := #[s, x], argTypes := #[22, 22] })
    (v : Value) (l : List V) (y : V) (c0 c1 c2 c3 : Value) (hs : a.eval s = v) (k : Nat) (hk : k = W.heap.size) (hx : a.eval x = .slice (some ⟨k, 0, none⟩) 1 1) (HO : OwnL W base S l v) (hy : VC W (fun b => S b ∧ some b ≠ v.ownBlock) y [c0, c1, c2, c3])
    (hbase : base ≤ W.heap.size) (hl : l.length ≤ 4294967296)
    (h : ∀ v1 w1, OwnL w1 base S (l ++ [y]) v1 → W.grownBy w1 v.ownBlock → (v1.ownBlock = v.ownBlock ∨ v1.ownBlock = some (W.heap.size + 1)) → wpList Tryz.prog ops Q rest (a.put o.dst v1) w1) :
    wpList Tryz.prog ops Q (o :: rest) a (W.alloc (.cells #[c0, c1, c2, c3] 39)) := by
  subst hk
  obtain ⟨i, hi, hz0, hz1, hz2⟩ := info_parts infoV
  obtain ⟨xs, hown, hcs⟩ := HO
  refine wpList_append_own_at (W.alloc (.cells #[c0, c1, c2, c3] 39)) hgd s x 22 ho base 39 i _ 4 56 Tryz.underlying22 hi hz0 hz1 hz2 rfl (by decide) v l.length xs hs (hown.alloc _) ⟨W.heap.size, 0, none⟩ 1 1 [c0, c1, c2, c3] hx rfl
    (World.news_of_block (cs := #[c0, c1, c2, c3]) (heap_alloc_new W _)) hy.one (by simp only [maxLen]; omega) (by omega) (by simp; omega) ?_
  intro v1 w1 hown1 hg _ hat
  have hg' : W.grownBy w1 v.ownBlock := World.grownBy.trans (World.grownBy_alloc W _ _) hg
  refine h v1 w1 ?_ hg' (by rw [World.size_alloc] at hat; exact hat)
  have hk : Keeps W (fun b => S b ∧ some b ≠ v.ownBlock) (W.alloc (.cells #[c0, c1, c2, c3] 39)) (fun b => S b ∧ some b ≠ v.ownBlock) := Keeps.alloc _
  exact own_after (hcs.keep hk) (m := [y]) ⟨_, [], by simp, hy.keep hk, rfl⟩ hg hat hown1
end
theorem pairedRt {c : V → V → Int} {h : Hp} (hr : RtO (some h)) : RtO (pairedH c h.kids) := fun x hx => hr x (by
  show x ∈ itemsH h
  rw [itemsH_eq]
  exact List.mem_cons_of_mem _ ((paired_perm c h.kids).mem_iff.1 hx))
theorem popped_len (c : V → V → Int) (h : Hp) : (itemsO (some h)).length = (itemsO (pairedH c h.kids)).length + 1 := by
  rw [(paired_perm c h.kids).length_eq]
  show (itemsH h).length = _
  rw [itemsH_eq]
  rfl
set_option maxRecDepth 100000 in
set_option maxHeartbeats 2000000 in
theorem qsorted_calls (o : Nat) (ho : o < 6) (h : Option Hp) (p : Option Addr) (w : World) (S : Nat → Prop) (hq : IsQ w S o h p) (hrt : RtO h) (hlen : (itemsO h).length ≤ 65536) (hT : Lib.Utf8Tabs 1 2 w) :
    Calls Tryz.prog 9 #[.pointer p] w fun e w' => ∃ v, e = .returned v ∧ IsS w' (fun b => w.heap.size ≤ b) (takenH (ordF o) (itemsO h).length h) v ∧ Below w.heap.size w w' := by
  have HQ := Lib.hid hq
  have HR := Lib.hid hrt
  have HT := Lib.hid hT
  have HO := Lib.hid ho
  have HL := Lib.hid hlen
  clear hq hrt hT ho hlen
  go_enter Tryz.func9, Tryz.ntmps9
  go_wp2_with fail
  go_loopw [0, 3] (fun vq vo wr => ∃ (done : List V) (t : Option Hp) (r : Option Addr), vq = .pointer r ∧ Hid (done ++ takenH (ordF o) (itemsO t).length t = takenH (ordF o) (itemsO h).length h) ∧ Hid (RtO t) ∧ Hid (done.length + (itemsO t).length = (itemsO h).length) ∧ Hid (IsQ wr (fun b => some b ≠ vo.ownBlock) o t r) ∧ Hid (OwnL wr w.heap.size (fun b => w.heap.size ≤ b) done vo) ∧ Below w.heap.size w wr) (fun _ vo _ => (itemsO h).length - sliceLen vo)
  case atStart => exact ⟨[], h, p, rfl, Lib.hid (List.nil_append _), HR, Lib.hid (by simp), Lib.hid (HQ.out.keep (Keeps.weak fun b _ => by simp [Value.ownBlock])), Lib.hid (OwnL.nil _ _ _), Below.refl _ _⟩
  case round =>
    obtain ⟨done, t, r, rfl, hdt, hrt, hln, hq, hO, hb⟩ := hrel
    obtain ⟨A, cap, rfl, hcap⟩ := hO.out.form
    have hsz := Lib.hid hb.size
    cases t with
    | none =>
      have HLN := Lib.hid (qlen_calls o none r wr _ hq.out)
      have HE : Hid (done = takenH (ordF o) (itemsO h).length h) := Lib.hid (by have := hdt.out; rwa [show takenH (ordF o) (itemsO none).length none = [] from rfl, List.append_nil] at this)
      have HI := Lib.hid (hO.out.is (S' := fun b => w.heap.size ≤ b) (fun b h => h) (fun b h => h) (by have := hln.out; have := HL.out; omega))
      have e0 : (((itemsO none).length : Nat) : Int) = 0 := rfl
      rw [e0] at HLN
      clear hdt hrt hln hq hO
      go_wp2_with (go_at_call 21; refine HLN.out.mono ?_; rintro e w2 ⟨rfl, rfl⟩)
      go_ret
      exact ⟨_, rfl, by rw [← HE.out]; exact HI.out, hb⟩
    | some h1 =>
      have HLN := Lib.hid (qlen_calls o (some h1) r wr _ hq.out)
      have hlen1 : (itemsO (some h1)).length ≤ 65536 := by have := hln.out; have := HL.out; omega
      have hown := Lib.hid hO.out.own_lt
      have HP := Lib.hid (qpop_calls o HO.out h1 r wr (fun b => some b ≠ (Value.slice A done.length cap).ownBlock) (fun k hk e => by have := (hown.out k e.symm).2; omega) hq.out hrt.out hlen1 (tabs_below HT.out hb))
      have hpl := popped_len (ordF o) h1
      have hz : (0 : Int) < ((itemsO (some h1)).length : Nat) := by omega
      have HD2 : Hid ((done ++ [h1.x]) ++ takenH (ordF o) (itemsO (pairedH (ordF o) h1.kids)).length (pairedH (ordF o) h1.kids) = takenH (ordF o) (itemsO h).length h) := Lib.hid (by
        rw [← hdt.out, hpl, takenH]
        simp)
      have HR2 : Hid (RtO (pairedH (ordF o) h1.kids)) := Lib.hid (pairedRt hrt.out)
      have HN2 : Hid ((done ++ [h1.x]).length + (itemsO (pairedH (ordF o) h1.kids)).length = (itemsO h).length) := Lib.hid (by have := hln.out; rw [List.length_append, List.length_singleton]; omega)
      have hdl : Hid (done.length ≤ 4294967296) := Lib.hid (by have := hln.out; have := HL.out; omega)
      have hdn : done.length < (itemsO h).length := by have := hln.out; omega
      clear hdt hrt hln hq hlen1 hpl
      go_wp2_with (first
        | (go_at_call 21; refine HLN.out.mono ?_; rintro e w2 ⟨rfl, rfl⟩)
        | (go_at_call 22; refine HP.out.mono ?_; rintro e w2 ⟨p2, v2, rfl, hq2, hv2, hb2⟩; obtain ⟨hbd, A2, c2, rfl, hc2, hA2⟩ := hv2.eq; have hb3 := alloc_of hb2 (.cells #[.int .i64 h1.x.kind, .int .i64 h1.x.num, .string h1.x.text, .slice A2 h1.x.items.length c2] 39); have HQ3 := Lib.hid (hq2.below ((Below.refl _ _).alloc (Nat.le_refl _) (.cells #[.int .i64 h1.x.kind, .int .i64 h1.x.num, .string h1.x.text, .slice A2 h1.x.items.length c2] 39))); have HO3 := Lib.hid (hO.out.below hb3); have hbr3 := Lib.hid (chain_then hb hb3)
           have HVC := Lib.hid (VC.mk hbd hc2 (hA2.keep (S' := fun b => w.heap.size ≤ b ∧ some b ≠ (Value.slice A done.length cap).ownBlock) (Keeps.below_to ((Below.refl _ _).alloc (Nat.le_refl _) (.cells #[.int .i64 h1.x.kind, .int .i64 h1.x.num, .string h1.x.text, .slice A2 h1.x.items.length c2] 39)) fun b hb1 (h : wr.heap.size ≤ b) => ⟨Nat.le_trans hsz.out h, fun e => by have := (hown.out b e.symm).2; omega⟩)))
           clear hq2 hv2 hbd hA2 hb2 hb3)
        | (at_builtin; go_loud (refine append_oneW w.heap.size (fun b => w.heap.size ≤ b) rfl _ _ rfl (.slice A done.length cap) done h1.x _ _ _ _ rfl _ (by simp) rfl HO3.out HVC.out hbr3.out.size hdl.out ?_); intro v1 w4 hO4 hg4 hat4; have hb4 := Below.grown hbr3.out hg4 hbr3.out.size (fun k e => (hown.out k e).1); have HO4 := Lib.hid hO4; obtain ⟨A4, c4, hv4, hc4⟩ := hO4.form; rw [List.length_append, List.length_singleton] at hv4
           go_loud (have HQ4 := Lib.hid (HQ3.out.keep (S' := fun b => some b ≠ v1.ownBlock) (fun b hb5 (h5 : some b ≠ (Value.slice A done.length cap).ownBlock) => ⟨fun e => by rcases hat4 with h6 | h6; exact h5 (e.trans h6); rw [h6] at e; injection e with e; omega, hg4.block b hb5 h5⟩)))
           clear hO4 hat4 hg4; subst hv4))
      go_roundw
      case rel => exact ⟨done ++ [h1.x], _, p2, rfl, HD2, HR2, HN2, HQ4, HO4, hb4⟩
      case measure => simp [sliceLen]; omega
end Go.Proofs.YtmnblgaefdahhaaGreatDoor
