/- A sorted map of pairs. A sorted set of values. -/
import Derived.Test.YtmnblgaefdahhaaGreatDoorCQsD
import Derived.Test.YtmnblgaefdahhaaGreatDoorCQsF
/- A sorted map of pairs. -/
set_option linter.unusedVariables false
set_option linter.unusedSimpArgs false
namespace Go.Proofs.YtmnblgaefdahhaaGreatDoor
open Go.RowKit Go.Shelf
attribute [local go_sem] lt_succ_of

theorem treeK_snoc (c : V → V → Int) (l : List V) (x : V) (t : Nd) : treeK c (l ++ [x]) t = blackN (insN c x V.zero (treeK c l t)) := by
  unfold treeK
  rw [List.foldl_append]
  rfl
theorem treeK_rt {c : V → V → Int} (hc : Ordr c) {l : List V} (h : ∀ x ∈ l, rightB x = true) : RtN (treeK c l .nil) := fun x hx => by
  rcases ((tree_keys hc l .nil (fun y hy => right_all (h y hy)) (fun y hy => by cases hy) List.Pairwise.nil).2 x).1 hx with h1 | h1
  · exact h x h1
  · cases h1
theorem rnew_good (o : Nat) (ho : o < 6) (w : World) : Calls Tryz.prog 32 #[.int .i64 o] w fun e w' => ∃ p, e = .returned (.tuple #[.pointer p, .int .i64 0]) ∧ IsM w' (fun b => w.heap.size ≤ b) o .nil p ∧ Below w.heap.size w w' := by
  have h1 : ¬ ((o : Int) < 0) := by omega
  have h2 : ¬ (5 < (o : Int)) := by omega
  clear ho
  go_enter Tryz.func32, Tryz.ntmps32
  go_wp2_with fail
  go_ret2
  exact ⟨_, rfl, map_new (Nat.le_refl _) (show IsN w _ .nil none from rfl) _ _, (Below.refl _ _).alloc (Nat.le_refl _) _⟩
theorem rnew_bad (o : Int) (ho : o < 0 ∨ 5 < o) (w : World) : Calls Tryz.prog 32 #[.int .i64 o] w fun e w' => e = .returned (.tuple #[.pointer none, .int .i64 4]) ∧ w = w' := by
  by_cases h0 : o < 0
  · clear ho
    go_enter Tryz.func32, Tryz.ntmps32
    go_wp2_with fail
    go_ret2
    exact ⟨rfl, rfl⟩
  · have h1 : 5 < o := by omega
    clear ho
    go_enter Tryz.func32, Tryz.ntmps32
    go_wp2_with fail
    go_ret2
    exact ⟨rfl, rfl⟩
theorem rof_kind (o : Int) (ho : o < 0 ∨ 5 < o) (vl : Value) (w : World) : Calls Tryz.prog 18 #[.int .i64 o, vl] w fun e w' => e = .returned (.tuple #[.pointer none, .int .i64 4]) ∧ w = w' := by
  have HC := Lib.hid (rnew_bad o ho w)
  clear ho
  go_enter Tryz.func18, Tryz.ntmps18
  go_wp2_with (go_at_call 32; refine HC.out.mono ?_; rintro e w1 ⟨rfl, rfl⟩)
  go_ret2
  exact ⟨rfl, rfl⟩
theorem rof_bad (o : Nat) (ho : o < 6) (l : List V) (hE : errL l ≠ 0) (A : Option Addr) (cap : Nat) (w : World) (base : Nat) (S : Nat → Prop) (hl : OwnG eltK 49 w base S l (.slice A l.length cap)) (hT : Lib.Utf8Tabs 1 2 w) (hlen0 : l.length ≤ 4294967296) :
    Calls Tryz.prog 18 #[.int .i64 o, .slice A l.length cap] w fun e w' => e = .returned (.tuple #[.pointer none, .int .i64 (errL l)]) ∧ Below w.heap.size w w' := by
  have HC := Lib.hid (rnew_good o ho w)
  have HK := fun (W : World) (hb : Below w.heap.size w W) => checked_calls l A cap W base S (hl.below hb) (tabs_below hT hb) hlen0
  obtain ⟨E, hEE⟩ : ∃ E, errL l = E := ⟨_, rfl⟩
  rw [hEE] at HK hE ⊢
  have HK := Lib.hid HK
  have z0 : (E == 0) = false := by simpa using hE
  have z1 : (E != 0) = true := by simpa using hE
  clear ho hl hT hE hEE
  go_enter Tryz.func18, Tryz.ntmps18
  go_wp2_with (first
    | (go_at_call 32; refine HC.out.mono ?_; rintro e w1 ⟨p, rfl, _, hb1⟩)
    | (go_at_call 33; refine (HK.out _ hb1).mono ?_; rintro e w2 ⟨rfl, hb2⟩))
  go_ret2
  exact ⟨rfl, below_then hb1 hb1.size hb2⟩
set_option maxRecDepth 100000 in
set_option maxHeartbeats 1000000 in
theorem rof_good (o : Nat) (ho : o < 6) (l : List V) (hlen : l.length ≤ 65536) (hr : ∀ x ∈ l, rightB x = true) (A : Option Addr) (cap : Nat) (w : World) (base : Nat) (S : Nat → Prop) (hl : OwnG eltK 49 w base S l (.slice A l.length cap)) (hT : Lib.Utf8Tabs 1 2 w) :
    Calls Tryz.prog 18 #[.int .i64 o, .slice A l.length cap] w fun e w' => ∃ p, e = .returned (.tuple #[.pointer p, .int .i64 0]) ∧ IsM w' (fun b => w.heap.size ≤ b) o (treeK (ordF o) l .nil) p ∧ Below w.heap.size w w' := by
  have HC := Lib.hid (rnew_good o ho w)
  have hE0 : errL l = 0 := by unfold errL; rw [if_neg (by omega), if_pos (List.all_eq_true.2 hr)]
  have HK := fun (W : World) (hb : Below w.heap.size w W) => checked_calls l A cap W base S (hl.below hb) (tabs_below hT hb) (by omega)
  rw [hE0] at HK
  have HK := Lib.hid HK
  have HO := Lib.hid ho
  have HR := Lib.hid hr
  have HL := Lib.hid hl
  have HT := Lib.hid hT
  clear ho hl hT hE0 hr
  go_enter Tryz.func18, Tryz.ntmps18
  go_wp2_with (first
    | (go_at_call 32; refine HC.out.mono ?_; rintro e w1 ⟨p, rfl, hm1, hb1⟩; have HM1 := Lib.hid hm1; clear hm1)
    | (go_at_call 33; refine (HK.out _ hb1).mono ?_; rintro e w2 ⟨rfl, hb2⟩))
  have hb12 := below_then hb1 hb1.size hb2
  have HM2 := Lib.hid (show IsM w2 (fun b => w.heap.size ≤ b) o (treeK (ordF o) (l.take 0) .nil) p from HM1.out.below hb2)
  clear HM1 hb1 hb2 HK HC
  go_loopw [6, 24] (fun vm vi wr => ∃ (i : Nat) (r : Option Addr), vm = .pointer r ∧ vi = .int .i64 i ∧ i ≤ l.length ∧ Hid (IsM wr (fun b => w.heap.size ≤ b) o (treeK (ordF o) (l.take i) .nil) r) ∧ Below w.heap.size w wr) (fun _ vi _ => l.length - (intOf vi).toNat)
  case atStart => exact ⟨0, p, rfl, rfl, Nat.zero_le _, HM2, hb12⟩
  case round =>
    obtain ⟨i, r, rfl, rfl, hil, hm, hb⟩ := hrel
    clear HM2 hb12
    by_cases hlt : i < l.length
    · have hz : (i : Int) < (l.length : Int) := by omega
      obtain ⟨g, B, cb, rfl, hg0, hg1, hbd, hcb, hB, f0, f1, f2, f3, f4, f5, f6, f7⟩ := pair_at (HL.out.below hb) i hlt
      have hpl := plus0 g
      have HOK := Lib.hid (fun (W : World) (hb' : Below wr.heap.size wr W) => ownr_calls (itemAt l i) _ W S ((IsV.mk hbd hcb hB).below hb'))
      have HOV := Lib.hid (fun (W : World) => ownr_calls V.zero _ W S (zero_is W S))
      have HW := Lib.hid (fun (W : World) (hb' : Below wr.heap.size wr W) (vk vv : Value) (hk : IsV W (fun b => w.heap.size ≤ b) (itemAt l i) vk) (hv : IsV W (fun b => w.heap.size ≤ b) V.zero vv) => with_calls o HO.out _ r (itemAt l i) V.zero (HR.out _ (itemAt_mem hlt)) vk vv W (fun b => w.heap.size ≤ b) (fun m hm' => Nat.le_trans (below_then hb hb.size hb').size hm') (hm.out.below hb') (treeK_rt (ordF_ordr o) fun x hx => HR.out x (List.mem_of_mem_take hx)) hk hv (tabs_below HT.out (below_then hb hb.size hb')))
      rw [← treeK_snoc, ← itemAt_take hlt] at HW
      have HSZ := Lib.hid hb.size
      clear hm hbd hB
      go_wp2_with fail
      obtain ⟨w3, hw3, hB3, hsz3, hx3⟩ : ∃ w3, wr.alloc (.cells #[.int .i64 (itemAt l i).kind, .int .i64 (itemAt l i).num, .string (itemAt l i).text, .slice B (itemAt l i).items.length cb, .int .i64 0, .int .i64 0, .string ⟨#[]⟩, .slice none 0 0] 49) = w3 ∧ Below wr.heap.size wr w3 ∧ wr.heap.size < w3.heap.size ∧ (∀ j u, [Value.int .i64 (itemAt l i).kind, .int .i64 (itemAt l i).num, .string (itemAt l i).text, .slice B (itemAt l i).items.length cb, .int .i64 0, .int .i64 0, .string ⟨#[]⟩, .slice none 0 0][j]? = some u → w3.cell? ⟨wr.heap.size, j, none⟩ = some u) := ⟨_, rfl, (Below.refl _ _).alloc (Nat.le_refl _) _, by simp, fun j u hu => by
        have := block_cells (c := [Value.int .i64 (itemAt l i).kind, .int .i64 (itemAt l i).num, .string (itemAt l i).text, .slice B (itemAt l i).items.length cb, .int .i64 0, .int .i64 0, .string ⟨#[]⟩, .slice none 0 0]) (heap_alloc_new wr (.cells #[.int .i64 (itemAt l i).kind, .int .i64 (itemAt l i).num, .string (itemAt l i).text, .slice B (itemAt l i).items.length cb, .int .i64 0, .int .i64 0, .string ⟨#[]⟩, .slice none 0 0] 49)) j u hu
        rwa [plus0, Nat.zero_add] at this⟩
      have HX : Hid (∀ W, Below w3.heap.size w3 W → W.cell? ⟨wr.heap.size, 0, none⟩ = some (.int .i64 (itemAt l i).kind) ∧ W.cell? ⟨wr.heap.size, 1, none⟩ = some (.int .i64 (itemAt l i).num) ∧ W.cell? ⟨wr.heap.size, 2, none⟩ = some (.string (itemAt l i).text) ∧ W.cell? ⟨wr.heap.size, 3, none⟩ = some (.slice B (itemAt l i).items.length cb) ∧ W.cell? ⟨wr.heap.size, 4, none⟩ = some (.int .i64 0) ∧ W.cell? ⟨wr.heap.size, 5, none⟩ = some (.int .i64 0) ∧ W.cell? ⟨wr.heap.size, 6, none⟩ = some (.string ⟨#[]⟩) ∧ W.cell? ⟨wr.heap.size, 7, none⟩ = some (.slice none 0 0)) := Lib.hid fun W hb' => ⟨cellB hb' (hx3 0 _ rfl), cellB hb' (hx3 1 _ rfl), cellB hb' (hx3 2 _ rfl), cellB hb' (hx3 3 _ rfl), cellB hb' (hx3 4 _ rfl), cellB hb' (hx3 5 _ rfl), cellB hb' (hx3 6 _ rfl), cellB hb' (hx3 7 _ rfl)⟩
      rw [hw3]
      have hr3 := Lib.hid hB3
      have hbr : Below w3.heap.size w3 w3.drew := (Below.refl _ _).drew
      clear hw3 hB3 hx3 f0 f1 f2 f3 f4 f5 f6 f7
      go_region_held3 (fun W => W.cell? ⟨wr.heap.size, 0, none⟩ = some (.int .i64 (itemAt l i).kind) ∧ W.cell? ⟨wr.heap.size, 1, none⟩ = some (.int .i64 (itemAt l i).num) ∧ W.cell? ⟨wr.heap.size, 2, none⟩ = some (.string (itemAt l i).text) ∧ W.cell? ⟨wr.heap.size, 3, none⟩ = some (.slice B (itemAt l i).items.length cb) ∧ W.cell? ⟨wr.heap.size, 4, none⟩ = some (.int .i64 0) ∧ W.cell? ⟨wr.heap.size, 5, none⟩ = some (.int .i64 0) ∧ W.cell? ⟨wr.heap.size, 6, none⟩ = some (.string ⟨#[]⟩) ∧ W.cell? ⟨wr.heap.size, 7, none⟩ = some (.slice none 0 0))
        (exact HX.out _ (by with_reducible assumption))
        (first
          | (go_at_call 35; refine (HOK.out _ (below_then hr3.out hr3.out.size hbr)).mono ?_; rintro e w5 ⟨v5, rfl, h5, hb5⟩; obtain ⟨_, A5, c5, rfl, _, _⟩ := h5.eq; have h5s := Nat.le_trans HSZ.out (below_then hr3.out hr3.out.size hbr).size; have hbr := below_then hbr hbr.size hb5; have I5 := Lib.hid (h5.keep (S' := fun b => w.heap.size ≤ b) (Keeps.weak fun b (h : _ ≤ b) => Nat.le_trans h5s h)); clear h5 hb5 HOK)
          | (go_at_call 35; refine (HOV.out _).mono ?_; rintro e w6 ⟨v6, rfl, h6, hb6⟩; obtain ⟨_, A6, c6, rfl, _, _⟩ := h6.eq; have h6s := Nat.le_trans HSZ.out (below_then hr3.out hr3.out.size hbr).size; have hbr := below_then hbr hbr.size hb6; have I5 := Lib.hid (I5.out.below hb6); have I6 := Lib.hid (h6.keep (S' := fun b => w.heap.size ≤ b) (Keeps.weak fun b (h : _ ≤ b) => Nat.le_trans h6s h)); clear h6 hb6)
          | (go_at_call 34; refine (HW.out _ (below_then hr3.out hr3.out.size hbr) _ _ I5.out I6.out).mono ?_; rintro e w7 ⟨r7, rfl, h7, hb7⟩; have hbr := below_then hbr hbr.size hb7; have I7 := Lib.hid h7; clear h7 hb7))
      have hb9 := below_then hb hb.size (below_then hr3.out hr3.out.size hbr)
      clear HW HOV
      go_wp2_with fail
      go_roundw
      case rel => exact ⟨i + 1, r7, rfl, by go_num, by omega, I7, hb9⟩
      case measure => simp [intOf]; omega
    · have he : i = l.length := by omega
      have HE : Hid (IsM wr (fun b => w.heap.size ≤ b) o (treeK (ordF o) l .nil) r) := Lib.hid (by
        have h1 := hm.out
        rwa [he, List.take_length] at h1)
      have hz : ¬ (i : Int) < (l.length : Int) := by omega
      clear hm he
      go_wp2_with fail
      go_ret2
      exact ⟨_, rfl, HE.out, hb⟩
end Go.Proofs.YtmnblgaefdahhaaGreatDoor

/- A sorted set of values. -/
set_option linter.unusedVariables false
set_option linter.unusedSimpArgs false
namespace Go.Proofs.YtmnblgaefdahhaaGreatDoor
open Go.RowKit Go.Shelf
attribute [local go_sem] lt_succ_of

section
variable {K : Type} {n : Nat} {ops : Array Oper} {rest : List Oper} {o : Oper} {a : Act} {Q : Exit → Act → World → Prop}
theorem append_oneGk (X : Elt K n) (T ST : TypeId) {z : Value} {by' : Nat} (hinfo : (Tryz.prog.info? T).map (fun i => (i.zero, i.size, i.bytes)) = some (some z, n, by')) (hST : Tryz.prog.underlying ST = some (.slice T)) (hz : z.cells.size = n) (hn : 0 < n) (hby : by' ≤ 4096)
    {W : World} (base : Nat) (S : Nat → Prop) (hgd : o.guard = none) (s x : Operand) (ho : o.op = .call { callee := .builtin .append, args := #[s, x], argTypes := #[ST, ST] })
    (v : Value) (l : List K) (y : K) (c : List Value) (hs : a.eval s = v) (k : Nat) (hk : k = W.heap.size) (hx : a.eval x = .slice (some ⟨k, 0, none⟩) 1 1) (HO : OwnG X T W base S l v) (hy : X.E W (fun b => S b ∧ some b ≠ v.ownBlock) y c)
    (hbase : base ≤ W.heap.size) (hl : l.length ≤ 4294967296)
    (h : ∀ v1 w1, OwnG X T w1 base S (l ++ [y]) v1 → W.grownBy w1 v.ownBlock → wpList Tryz.prog ops Q rest (a.put o.dst v1) w1) :
    wpList Tryz.prog ops Q (o :: rest) a (W.alloc (.cells c.toArray T)) := by
  subst hk
  exact append_oneG X T ST hinfo hST hz hn hby base S hgd s x ho v l y c hs hx HO hy hbase hl h
end
/-- A sorted set in memory. -/
def IsT (w : World) (S : Nat → Prop) (o : Nat) (t : Nd) (p : Option Addr) : Prop := ∃ b q, p = some ⟨b, 0, none⟩ ∧ S b ∧ b < w.heap.size ∧ w.cell? ⟨b, 0, none⟩ = some (.pointer q) ∧ IsM w S o t q
theorem IsT.keep {w w' : World} {S S' : Nat → Prop} (hk : Keeps w S w' S') {o : Nat} {t : Nd} {p : Option Addr} (hh : IsT w S o t p) : IsT w' S' o t p := by
  obtain ⟨b, q, e, hs, hl, h0, h1⟩ := hh
  have k0 := hk.cell (a := ⟨b, 0, none⟩) hs h0
  exact ⟨b, q, e, k0.1, World.block_lt_of_cell? w' _ k0.2, k0.2, h1.keep hk⟩
theorem IsT.below {w w' : World} {S : Nat → Prop} (hk : Below w.heap.size w w') {o : Nat} {t : Nd} {p : Option Addr} (hh : IsT w S o t p) : IsT w' S o t p := hh.keep (Keeps.below hk)
theorem made_bad (p : Option Addr) (e : Int) (he : e ≠ 0) (w : World) : Calls Tryz.prog 17 #[.pointer p, .int .i64 e] w fun r w' => r = .returned (.tuple #[.pointer none, .int .i64 e]) ∧ w = w' := by
  have z0 : (e == 0) = false := by simpa using he
  have z1 : (e != 0) = true := by simpa using he
  clear he
  go_enter Tryz.func17, Tryz.ntmps17
  go_wp2_with fail
  go_ret2
  exact ⟨rfl, rfl⟩
theorem made_good (p : Option Addr) (w : World) (S : Nat → Prop) (hS : S w.heap.size) (o : Nat) (t : Nd) (h : IsM w S o t p) : Calls Tryz.prog 17 #[.pointer p, .int .i64 0] w fun r w' => ∃ q, r = .returned (.tuple #[.pointer q, .int .i64 0]) ∧ IsT w' S o t q ∧ Below w.heap.size w w' := by
  have HM := Lib.hid h
  clear h
  go_enter Tryz.func17, Tryz.ntmps17
  go_wp2_with fail
  go_ret2
  have hb : Below w.heap.size w (w.alloc (.cells #[.pointer p] 79)) := (Below.refl _ _).alloc (Nat.le_refl _) _
  exact ⟨_, rfl, ⟨w.heap.size, p, rfl, hS, by simp, cell_of_new (heap_alloc_new w _), HM.out.below hb⟩, hb⟩
theorem errO_L {o : Int} {l : List V} (h : ¬ (o < 0 ∨ 5 < o)) : errO o l = errL l := by unfold errO errL; rw [if_neg h]
theorem rof_calls (o : Int) (l : List V) (A : Option Addr) (cap : Nat) (w : World) (base : Nat) (S : Nat → Prop) (hl : OwnG eltK 49 w base S l (.slice A l.length cap)) (hT : Lib.Utf8Tabs 1 2 w) (hlen0 : l.length ≤ 4294967296) :
    Calls Tryz.prog 18 #[.int .i64 o, .slice A l.length cap] w fun e w' => ((errO o l = 0 ∧ ∃ p, e = .returned (.tuple #[.pointer p, .int .i64 0]) ∧ IsM w' (fun b => w.heap.size ≤ b) o.toNat (treeK (ordF o.toNat) l .nil) p) ∨ (errO o l ≠ 0 ∧ e = .returned (.tuple #[.pointer none, .int .i64 (errO o l)]))) ∧ Below w.heap.size w w' := by
  by_cases h1 : o < 0 ∨ 5 < o
  · have e : errO o l = 4 := by unfold errO; rw [if_pos h1]
    rw [e]
    exact (rof_kind o h1 _ w).mono fun e w' ⟨h2, h3⟩ => ⟨.inr ⟨by decide, h2⟩, h3 ▸ Below.refl _ _⟩
  · obtain ⟨n, rfl, hn⟩ : ∃ n : Nat, o = n ∧ n < 6 := ⟨o.toNat, by omega, by omega⟩
    rw [errO_L h1]
    by_cases h2 : errL l = 0
    · have h3 : errO n l = 0 := by rw [errO_L h1]; exact h2
      obtain ⟨m, hm, _, hlen, hr⟩ := errO_good h3
      refine (rof_good n hn l hlen hr A cap w base S hl hT).mono fun e w' ⟨p, h4, h5, h6⟩ => ⟨.inl ⟨h2, p, h4, ?_⟩, h6⟩
      rw [Int.toNat_natCast]
      exact h5
    · exact (rof_bad n hn l h2 A cap w base S hl hT hlen0).mono fun e w' ⟨h4, h5⟩ => ⟨.inr ⟨h2, h4⟩, h5⟩
set_option maxRecDepth 100000 in
set_option maxHeartbeats 1000000 in
theorem sof_calls (o : Int) (l : List V) (vl : Value) (w : World) (S : Nat → Prop) (hl : IsS w S l vl) (hT : Lib.Utf8Tabs 1 2 w) :
    Calls Tryz.prog 6 #[.int .i64 o, vl] w fun e w' => ((errO o l = 0 ∧ ∃ p, e = .returned (.tuple #[.pointer p, .int .i64 0]) ∧ IsT w' (fun b => w.heap.size ≤ b) o.toNat (treeK (ordF o.toNat) l .nil) p) ∨ (errO o l ≠ 0 ∧ e = .returned (.tuple #[.pointer none, .int .i64 (errO o l)]))) ∧ Below w.heap.size w w' := by
  obtain ⟨A, ca, rfl, hca, hla, hA⟩ := hl
  have HA := Lib.hid hA
  have HT := Lib.hid hT
  obtain ⟨E, hE⟩ : ∃ E, errO o l = E := ⟨_, rfl⟩
  rw [hE]
  have HEE := Lib.hid hE
  clear hA hT hE
  go_enter Tryz.func6, Tryz.ntmps6
  go_wp2_with fail
  go_loopw [6, 11] (fun vp vi wr => ∃ i : Nat, vi = .int .i64 i ∧ i ≤ l.length ∧ Hid (OwnG eltK 49 wr w.heap.size (fun b => S b ∧ b < w.heap.size) (l.take i) vp) ∧ Below w.heap.size w wr) (fun _ vi _ => l.length - (intOf vi).toNat)
  case atStart => exact ⟨0, rfl, Nat.zero_le _, Lib.hid (OwnG.nil _ _ _ _ _), Below.refl _ _⟩
  case round =>
    obtain ⟨i, rfl, hil, hO, hb⟩ := hrel
    obtain ⟨Ap, cp, rfl, hcp⟩ := hO.out.form
    by_cases hlt : i < l.length
    · have hz : (i : Int) < (l.length : Int) := by omega
      have hA0 : LA wr (fun b => S b ∧ b < w.heap.size) l A := HA.out.keep (Keeps.below_to hb fun b h1 h2 => ⟨h2, h1⟩)
      obtain ⟨ad, A1, c1, rfl, hlb, hbd, f0, f1, f2, f3, hc1, hLA⟩ := hA0.at i hlt
      have hown := Lib.hid hO.out.own_lt
      have hb3 := hb.alloc hb.size (.cells #[.int .i64 (itemAt l i).kind, .int .i64 (itemAt l i).num, .string (itemAt l i).text, .slice A1 (itemAt l i).items.length c1] 39)
      have hb13 : Below wr.heap.size wr (wr.alloc (.cells #[.int .i64 (itemAt l i).kind, .int .i64 (itemAt l i).num, .string (itemAt l i).text, .slice A1 (itemAt l i).items.length c1] 39)) := (Below.refl _ _).alloc (Nat.le_refl _) _
      have HO3 := Lib.hid (hO.out.below hb13)
      have HB3 := Lib.hid hb3
      have HE : Hid (eltK.E (wr.alloc (.cells #[.int .i64 (itemAt l i).kind, .int .i64 (itemAt l i).num, .string (itemAt l i).text, .slice A1 (itemAt l i).items.length c1] 39)) (fun b => (S b ∧ b < w.heap.size) ∧ some b ≠ (Value.slice Ap (l.take i).length cp).ownBlock) (itemAt l i)
          [.int .i64 (itemAt l i).kind, .int .i64 (itemAt l i).num, .string (itemAt l i).text, .slice A1 (itemAt l i).items.length c1, .int .i64 0, .int .i64 0, .string ⟨#[]⟩, .slice none 0 0]) :=
        Lib.hid ⟨_, VC.mk hbd hc1 ((hLA.below hb13).keep (Keeps.weak fun b h => ⟨h, fun e => by have := (hown.out b e.symm).1; omega⟩)), rfl⟩
      have htl : (l.take i).length ≤ 4294967296 := by rw [List.length_take]; omega
      have HTL := Lib.hid htl
      have HTK := Lib.hid (itemAt_take hlt)
      clear hA0 hbd hLA hb3 hb13 htl hO
      go_wp2_with (at_builtin; refine append_oneGk eltK 49 47 infoPr Tryz.underlying47 rfl (by decide) (by decide) w.heap.size (fun b => S b ∧ b < w.heap.size) rfl _ _ rfl (.slice Ap (l.take i).length cp) (l.take i) (itemAt l i) _ rfl _ (by simp) rfl HO3.out HE.out HB3.out.size HTL.out ?_; intro v1 w4 hO4 hg4; rw [← HTK.out] at hO4; have HO4 := Lib.hid hO4; have hb4 := Below.grown HB3.out hg4 HB3.out.size (fun k e => (hown.out k e).1); clear hO4 hg4)
      go_roundw
      case rel => exact ⟨i + 1, by go_num, by omega, HO4, hb4⟩
      case measure => simp [intOf]; omega
    · have he : i = l.length := by omega
      have HO5 := hO.out
      rw [he, List.take_length] at HO5
      rw [show (l.take i).length = l.length by rw [he, List.take_length]]
      have HR := rof_calls o l Ap cp wr _ _ HO5 (tabs_below HT.out hb) hla
      rw [HEE.out] at HR
      have HR := Lib.hid HR
      have hz : ¬ (i : Int) < (l.length : Int) := by omega
      have HSZ := Lib.hid hb.size
      clear he hO HO5
      go_wp2_with (first
        | (go_at_call 18; refine HR.out.mono ?_; rintro e w2 ⟨hr, hb2⟩; have hb3 := below_then hb HSZ.out hb2; have hs3 := Nat.le_trans HSZ.out hb2.size; rcases hr with ⟨he, p, rfl, hm⟩ | ⟨he, rfl⟩)
        | (go_at_call 17; refine (made_bad none E he w2).mono ?_; rintro e w3 ⟨rfl, rfl⟩)
        | (go_at_call 17; refine (made_good p w2 (fun b => w.heap.size ≤ b) hs3 o.toNat _ (hm.keep (Keeps.weak fun b (h : wr.heap.size ≤ b) => Nat.le_trans HSZ.out h))).mono ?_; rintro e w3 ⟨q, rfl, hq, hb5⟩; have HQ := Lib.hid hq; have hb6 := below_then hb3 hb3.size hb5; clear hq))
      · go_ret2
        exact ⟨.inl ⟨he, q, rfl, HQ.out⟩, hb6⟩
      · go_ret2
        exact ⟨.inr ⟨he, rfl⟩, hb3⟩
end Go.Proofs.YtmnblgaefdahhaaGreatDoor
