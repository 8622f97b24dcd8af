/- What a deque hands out. -/
import Derived.Test.YtjjbhnkplbjfeaaDoorCFnRl
import Derived.Test.YtjjbhnkplbjfeaaDoorCFnL
import Derived.Test.YtjjbhnkplbjfeaaDoorCValF

set_option linter.unusedVariables false
set_option linter.unusedSimpArgs false
namespace Go.Proofs.YtjjbhnkplbjfeaaDoor
open Go.RowKit Go.Shelf
attribute [local go_sem] Oper.semAt_some lt_succ_of methItem methNode asItem asNode isNode noNode fieldNode fieldItem notNil

/-- What the function that goes over items does with each of them. -/
def DoRound (T : Nat → Prop) (Y : Nat) (J Jx : List V → World → Prop) (G : List V) : Prop := ∀ pre x vx W m, J pre W → IsV W T x vx → (∀ b, T b → b < W.heap.size) → pre ++ [x] <+: G →
  CallsIn Fence.wide m Tryd.prog 102 #[vx, .pointer (some ⟨Y, 0, none⟩)] W fun e W' => (e = .returned (.bool true) ∧ J (pre ++ [x]) W' ∧ Still T W W') ∨ (e = .returned (.bool false) ∧ Jx (pre ++ [x]) W')
theorem Still.keeps {T : Nat → Prop} {W W' : World} (h : Still T W W') : Keeps W T W' T := fun b _ hs => ⟨hs, h.2 b hs⟩
theorem pre_left {a b G : List V} (h : a ++ b <+: G) : a <+: G := (List.prefix_append a b).trans h
/-- What each says of parts of a level. -/
def EachP (k : Nat) : Prop := ∀ (ks : List Pt) (vl : Value) (T : Nat → Prop) (Y n : Nat) (J Jx : List V → World → Prop) (G pre : List V) (W : World), (∀ p, p ∈ ks → Pt.Lev k p) → IsPs W T ks vl → ks.length ≤ 65536 → (∀ b, T b → b < W.heap.size) → Stays J → DoRound T Y J Jx G → pre ++ Pt.flat ks <+: G → J pre W →
  CallsIn Fence.wide n Tryd.prog 112 #[vl, .func (.func 102) #[] #[.pointer (some ⟨Y, 0, none⟩)]] W fun e W' => (e = .returned (.bool true) ∧ J (pre ++ Pt.flat ks) W' ∧ Still T W W') ∨ (e = .returned (.bool false) ∧ ∃ q, q <+: G ∧ Jx q W')
set_option maxRecDepth 100000 in
set_option maxHeartbeats 8000000 in
theorem each_items : EachP 0 := by
  intro ks vl T Y n J Jx G pre W hlev hl hk hT hJ hD hpre h0
  obtain ⟨A, cap, rfl, hc, hA⟩ := hl
  have HA := Lib.hid hA
  have HL := Lib.hid hlev
  have HT := Lib.hid hT
  have HJ := Lib.hid hJ
  have HD := Lib.hid hD
  have HP := Lib.hid hpre
  have H0 := Lib.hid h0
  clear hA hlev hT hJ hD hpre h0
  refine callsIn_of_wp Tryd.func112 rfl trivial ?_ rfl
  simp only [Tryd.ntmps112, List.size_toArray, List.length_cons, List.length_nil, Nat.reduceAdd, Nat.reduceSub, Array.replicate_succ, Array.replicate_zero, List.push_toArray, List.append_toArray, List.nil_append, List.cons_append]
  gi_wp2_with fail
  gi_loopw [11] (fun vi wr => ∃ i : Nat, vi = .int .i64 i ∧ i ≤ ks.length ∧ Hid (J (pre ++ Pt.flat (ks.take i)) wr) ∧ Hid (Still T W wr)) (fun v _ => ks.length - (intOf v).toNat)
  case atStart => exact ⟨0, rfl, by omega, Lib.hid (by simpa [Pt.flat] using H0.out), Lib.hid (Still.refl _ _)⟩
  case round =>
    obtain ⟨i, rfl, hi, HI, hag⟩ := hrel
    by_cases hlt : i < ks.length
    · obtain ⟨ad, rfl, hPC⟩ := HA.out.resolve_left (fun e => by rw [e] at hlt; simp at hlt)
      obtain ⟨hsA, u, hu, hcu⟩ := (hPC.keep hag.out.keeps).at i hlt
      rw [Nat.zero_add] at hcu
      have hAl := World.block_lt_of_cell? wr _ hcu
      obtain ⟨x, hx⟩ := (HL.out _ (ptAt_mem hlt)).zero
      have hgt : Pt.flat (ks.take (i + 1)) = Pt.flat (ks.take i) ++ [x] := by rw [ptAt_take hlt, pflat_append, pflat_one, hx, pitem_items]
      rw [hx] at hu
      obtain ⟨A1, c1, rfl, hv⟩ := hu.item_eq
      have hTw : ∀ b, T b → b < wr.heap.size := fun b hb => Nat.lt_of_lt_of_le (HT.out b hb) hag.out.1
      have HPP : Hid ((pre ++ Pt.flat (ks.take i)) ++ [x] <+: G) := by
        refine Lib.hid (pre_left (b := Pt.flat (ks.drop (i + 1))) ?_)
        have h1 := HP.out
        conv at h1 => lhs; rw [← List.take_append_drop (i + 1) ks, pflat_append, hgt]
        simpa [List.append_assoc] using h1
      have hB1 : Below wr.heap.size wr (wr.alloc (.cells #[.int .i64 0, .slice none 0 0] 137)) := alloc_of (Below.refl _ _) _
      have HDO := Lib.hid fun m => HD.out (pre ++ Pt.flat (ks.take i)) x _ _ m (HJ.out _ _ _ HI.out hB1) (hv.keep (Keeps.below hB1)) (fun b hb => Nat.lt_of_lt_of_le (hTw b hb) hB1.size) HPP.out
      have HG := Lib.hid hgt
      have HTW := Lib.hid hTw
      clear hPC hu hv hgt hx hTw
      gi_wp2_with fail
      refine ⟨trivial, fun h => (by cases h), ?_⟩
      refine (HDO.out _).mono ?_
      rintro e w5 (⟨rfl, hJ5, hk5⟩ | ⟨rfl, hJx⟩)
      · have HJ5 := Lib.hid hJ5
        have hst := (Still.below hB1 HTW.out).trans hk5
        have HST := Lib.hid (hag.out.trans hst)
        clear hJ5 hst hk5
        gi_wp2_with fail
        go_roundw
        case rel => exact ⟨i + 1, by go_num, by omega, Lib.hid (by rw [HG.out, ← List.append_assoc]; exact HJ5.out), HST⟩
        case measure => simp [intOf]; omega
      · have HJX := Lib.hid hJx
        clear hJx
        gi_wp2_with fail
        go_ret
        exact .inr ⟨rfl, _, HPP.out, HJX.out⟩
    · obtain rfl : i = ks.length := by omega
      rw [List.take_length] at HI
      gi_wp2_with fail
      go_ret
      exact .inl ⟨rfl, HI.out, hag.out⟩
set_option maxRecDepth 100000 in
set_option maxHeartbeats 8000000 in
theorem each_nodes (k : Nat) (ih : EachP k) : EachP (k + 1) := by
  intro ks vl T Y n J Jx G pre W hlev hl hk hT hJ hD hpre h0
  obtain ⟨A, cap, rfl, hc, hA⟩ := hl
  have HA := Lib.hid hA
  have HL := Lib.hid hlev
  have HT := Lib.hid hT
  have HJ := Lib.hid hJ
  have HD := Lib.hid hD
  have HP := Lib.hid hpre
  have H0 := Lib.hid h0
  have IH := Lib.hid ih
  clear hA hlev hT hJ hD hpre h0 ih
  refine callsIn_of_wp Tryd.func112 rfl trivial ?_ rfl
  simp only [Tryd.ntmps112, List.size_toArray, List.length_cons, List.length_nil, Nat.reduceAdd, Nat.reduceSub, Array.replicate_succ, Array.replicate_zero, List.push_toArray, List.append_toArray, List.nil_append, List.cons_append]
  gi_wp2_with fail
  gi_loopw [11] (fun vi wr => ∃ i : Nat, vi = .int .i64 i ∧ i ≤ ks.length ∧ Hid (J (pre ++ Pt.flat (ks.take i)) wr) ∧ Hid (Still T W wr)) (fun v _ => ks.length - (intOf v).toNat)
  case atStart => exact ⟨0, rfl, by omega, Lib.hid (by simpa [Pt.flat] using H0.out), Lib.hid (Still.refl _ _)⟩
  case round =>
    obtain ⟨i, rfl, hi, HI, hag⟩ := hrel
    by_cases hlt : i < ks.length
    · obtain ⟨ad, rfl, hPC⟩ := HA.out.resolve_left (fun e => by rw [e] at hlt; simp at hlt)
      obtain ⟨hsA, u, hu, hcu⟩ := (hPC.keep hag.out.keeps).at i hlt
      rw [Nat.zero_add] at hcu
      have hAl := World.block_lt_of_cell? wr _ hcu
      obtain ⟨kk, hx, h3, hkk⟩ := (HL.out _ (ptAt_mem hlt)).succ
      have hgt : Pt.flat (ks.take (i + 1)) = Pt.flat (ks.take i) ++ Pt.flat kk := by rw [ptAt_take hlt, pflat_append, pflat_one, hx, pnode_items]
      rw [hx] at hu
      obtain ⟨A1, c1, rfl, hc1, hv⟩ := hu.node_eq
      have hTw : ∀ b, T b → b < wr.heap.size := fun b hb => Nat.lt_of_lt_of_le (HT.out b hb) hag.out.1
      have HPP : Hid ((pre ++ Pt.flat (ks.take i)) ++ Pt.flat kk <+: G) := by
        refine Lib.hid (pre_left (b := Pt.flat (ks.drop (i + 1))) ?_)
        have h1 := HP.out
        conv at h1 => lhs; rw [← List.take_append_drop (i + 1) ks, pflat_append, hgt]
        simpa [List.append_assoc] using h1
      obtain ⟨w1, hw1, hB1, hsz, hb0⟩ : ∃ w1, wr.alloc (.cells #[.int .i64 0, .slice none 0 0] 137) = w1 ∧ Below wr.heap.size wr w1 ∧ wr.heap.size + 1 = w1.heap.size ∧ w1.heap[wr.heap.size]? = some (.cells #[.int .i64 0, .slice none 0 0] 137 (0, 0)) :=
        ⟨_, rfl, (Below.refl _ _).alloc (Nat.le_refl _) _, by simp, heap_alloc_new wr _⟩
      obtain ⟨f0, f1⟩ := block2 hb0
      have fz := free4 hb0
      obtain ⟨n0, hn⟩ : ∃ n : Int, ((Pt.flat kk).length : Int) = n := ⟨_, rfl⟩
      rw [hn] at hcu
      have h5 := blockset hb0 0 (.int .i64 n0)
      have h6 := blockset h5 1 (.slice (some A1) kk.length c1)
      obtain ⟨w2, hw2, hB2, hk2⟩ : ∃ w2, (w1.setCell ⟨wr.heap.size, 0, none⟩ (.int .i64 n0)).setCell ⟨wr.heap.size, 1, none⟩ (.slice (some A1) kk.length c1) = w2 ∧ Below wr.heap.size wr w2 ∧ w2.heap[wr.heap.size]? = some (.cells #[.int .i64 n0, .slice (some A1) kk.length c1] 137 (0, 0)) :=
        ⟨_, rfl, (hB1.setCell (Nat.le_refl _) _).setCell (Nat.le_refl _) _, by simpa using h6⟩
      obtain ⟨d0, d1⟩ := block2 hk2
      have hl2 := World.block_lt_of_cell? w2 _ d1
      have HDO := Lib.hid fun m => IH.out kk (.slice (some A1) kk.length c1) T Y m J Jx G (pre ++ Pt.flat (ks.take i)) w2 hkk ((IsPs.of hc1 hv).below hB2) (by omega) (fun b hb => Nat.lt_of_lt_of_le (hTw b hb) hB2.size) HJ.out HD.out HPP.out (HJ.out _ _ _ HI.out hB2)
      have HG := Lib.hid hgt
      have HTW := Lib.hid hTw
      clear hPC hu hv hgt hx hTw hb0 h5 h6 hk2 hn h3 hkk
      gi_wp2_with fail
      refine ⟨trivial, fun h => (by cases h), ?_⟩
      refine (HDO.out _).mono ?_
      rintro e w5 (⟨rfl, hJ5, hk5⟩ | ⟨rfl, q, hq, hJx⟩)
      · have HJ5 := Lib.hid hJ5
        have hst := (Still.below hB2 HTW.out).trans hk5
        have HST := Lib.hid (hag.out.trans hst)
        clear hJ5 hst hk5
        gi_wp2_with fail
        go_roundw
        case rel => exact ⟨i + 1, by go_num, by omega, Lib.hid (by rw [HG.out, ← List.append_assoc]; exact HJ5.out), HST⟩
        case measure => simp [intOf]; omega
      · have HJX := Lib.hid (And.intro hq hJx)
        clear hJx hq
        gi_wp2_with fail
        go_ret
        exact .inr ⟨rfl, q, HJX.out.1, HJX.out.2⟩
    · obtain rfl : i = ks.length := by omega
      rw [List.take_length] at HI
      gi_wp2_with fail
      go_ret
      exact .inl ⟨rfl, HI.out, hag.out⟩
theorem each_parts : ∀ k, EachP k
  | 0 => each_items
  | k + 1 => each_nodes k (each_parts k)
set_option maxRecDepth 100000 in
set_option maxHeartbeats 8000000 in
theorem each_tree (t : Ft) : ∀ (k : Nat) (p : Option Addr) (T : Nat → Prop) (Y n : Nat) (J Jx : List V → World → Prop) (G pre : List V) (W : World), IsF W T t p → Ft.Ok k t → (∀ b, T b → b < W.heap.size) → Stays J → DoRound T Y J Jx G → pre ++ t.items <+: G → J pre W →
    CallsIn Fence.wide n Tryd.prog 101 #[.pointer p, .func (.func 102) #[] #[.pointer (some ⟨Y, 0, none⟩)]] W fun e W' => (e = .returned (.bool true) ∧ J (pre ++ t.items) W' ∧ Still T W W') ∨ (e = .returned (.bool false) ∧ ∃ q, q <+: G ∧ Jx q W') := by
  induction t with
  | nil =>
    intro k p T Y n J Jx G pre W ht hok hT hJ hD hpre h0
    obtain rfl := ht.nil_eq
    have H0 := Lib.hid h0
    clear ht hok hT hJ hD hpre h0
    refine callsIn_of_wp Tryd.func101 rfl trivial ?_ rfl
    simp only [Tryd.ntmps101, List.size_toArray, List.length_cons, List.length_nil, Nat.reduceAdd, Nat.reduceSub, Array.replicate_succ, Array.replicate_zero, List.push_toArray, List.append_toArray, List.nil_append, List.cons_append]
    gi_wp2_with fail
    refine ⟨trivial, ?_⟩
    gi_wp2_with fail
    all_goals first | (rename_i hh _; cases hh; done) | skip
    refine ⟨trivial, ?_⟩
    gi_wp2_with fail
    all_goals first | (rename_i hh _; cases hh; done) | skip
    refine ⟨trivial, ?_⟩
    gi_wp2_with fail
    go_ret
    exact .inl ⟨rfl, by rw [Ft.items, List.append_nil]; exact H0.out, Still.refl _ _⟩
  | mk l m r ih =>
    intro k p T Y n J Jx G pre W ht hok hT hJ hD hpre h0
    obtain ⟨b, vl, vr, q, rfl, hs, c0, c1, c2, c3, hl, hr, hq⟩ := ht.eq
    obtain ⟨h1, h2, h3, h4, h5, h6, h7⟩ := hok
    have hbl := World.block_lt_of_cell? W _ c0
    have e1 : pre ++ (Ft.mk l m r).items = ((pre ++ Pt.flat l) ++ m.items) ++ Pt.flat r := by rw [Ft.items]; simp [List.append_assoc]
    rw [e1] at hpre
    have hp2 := pre_left hpre
    have hp1 := pre_left hp2
    have HE1 := Lib.hid fun n => each_parts k l vl T Y n J Jx G pre W h1 hl (by omega) hT hJ hD hp1 h0
    have HE2 : Hid (∀ n W1, J (pre ++ Pt.flat l) W1 → Still T W W1 → CallsIn Fence.wide n Tryd.prog 101 #[.pointer q, .func (.func 102) #[] #[.pointer (some ⟨Y, 0, none⟩)]] W1 fun e W' => (e = .returned (.bool true) ∧ J ((pre ++ Pt.flat l) ++ m.items) W' ∧ Still T W1 W') ∨ (e = .returned (.bool false) ∧ ∃ q, q <+: G ∧ Jx q W')) := Lib.hid fun n W1 hJ1 hs1 =>
      ih (k + 1) q T Y n J Jx G _ W1 (hq.keep hs1.keeps) h6 (fun b hb => Nat.lt_of_lt_of_le (hT b hb) hs1.1) hJ hD hp2 hJ1
    have HE3 : Hid (∀ n W1, J ((pre ++ Pt.flat l) ++ m.items) W1 → Still T W W1 → CallsIn Fence.wide n Tryd.prog 112 #[vr, .func (.func 102) #[] #[.pointer (some ⟨Y, 0, none⟩)]] W1 fun e W' => (e = .returned (.bool true) ∧ J (((pre ++ Pt.flat l) ++ m.items) ++ Pt.flat r) W' ∧ Still T W1 W') ∨ (e = .returned (.bool false) ∧ ∃ q, q <+: G ∧ Jx q W')) := Lib.hid fun n W1 hJ1 hs1 =>
      each_parts k r vr T Y n J Jx G _ W1 h2 (hr.keep hs1.keeps) (by omega) (fun b hb => Nat.lt_of_lt_of_le (hT b hb) hs1.1) hJ hD hpre hJ1
    have HC := Lib.hid (And.intro hs (And.intro c1 (And.intro c2 c3)))
    have H1 := Lib.hid e1
    obtain ⟨A, cA, rfl, _⟩ := id hl
    obtain ⟨B, cB, rfl, _⟩ := id hr
    clear ih ht hl hr hq h1 h2 h3 h4 h5 h6 h7 hT hJ hD hpre h0 hp1 hp2 e1 c0
    refine callsIn_of_wp Tryd.func101 rfl trivial ?_ rfl
    simp only [Tryd.ntmps101, List.size_toArray, List.length_cons, List.length_nil, Nat.reduceAdd, Nat.reduceSub, Array.replicate_succ, Array.replicate_zero, List.push_toArray, List.append_toArray, List.nil_append, List.cons_append]
    gi_wp2_with fail
    refine ⟨trivial, fun h => (by cases h), ?_⟩
    refine (HE1.out _).mono ?_
    rintro e w2 (⟨rfl, hJ2, hs2⟩ | ⟨rfl, q2, hq2, hJx2⟩)
    · have d2 := (World.cell?_of_block (w := W) (hs2.2 b HC.out.1)).trans HC.out.2.2.1
      have d3 := (World.cell?_of_block (w := W) (hs2.2 b HC.out.1)).trans HC.out.2.2.2
      have hbl2 := World.block_lt_of_cell? w2 _ d3
      have HX := Lib.hid (HE2.out (n - 1) w2 hJ2 hs2)
      have HS2 := Lib.hid hs2
      clear hJ2 hs2
      gi_wp2_with fail
      refine ⟨trivial, fun h => (by cases h), ?_⟩
      refine HX.out.mono ?_
      rintro e w3 (⟨rfl, hJ3, hs3⟩ | ⟨rfl, q3, hq3, hJx3⟩)
      · have hs23 := HS2.out.trans hs3
        have e2 := (World.cell?_of_block (w := W) (hs23.2 b HC.out.1)).trans HC.out.2.2.1
        have hbl3 := World.block_lt_of_cell? w3 _ e2
        have HX3 := Lib.hid (HE3.out (n - 1) w3 hJ3 hs23)
        have HS3 := Lib.hid hs23
        clear hJ3 hs3 hs23
        gi_wp2_with fail
        refine ⟨trivial, fun h => (by cases h), ?_⟩
        refine HX3.out.mono ?_
        rintro e w4 (⟨rfl, hJ4, hs4⟩ | ⟨rfl, q4, hq4, hJx4⟩)
        · have HJ4 := Lib.hid (And.intro hJ4 (HS3.out.trans hs4))
          clear hJ4 hs4
          gi_wp2_with fail
          go_ret
          exact .inl ⟨rfl, by rw [H1.out]; exact HJ4.out.1, HJ4.out.2⟩
        · have HJX := Lib.hid (And.intro hq4 hJx4)
          clear hJx4 hq4
          gi_wp2_with fail
          go_ret
          exact .inr ⟨rfl, q4, HJX.out.1, HJX.out.2⟩
      · have HJX := Lib.hid (And.intro hq3 hJx3)
        clear hJx3 hq3
        gi_wp2_with fail
        refine ⟨trivial, ?_⟩
        gi_wp2_with fail
        go_ret
        exact .inr ⟨rfl, q3, HJX.out.1, HJX.out.2⟩
    · have HJX := Lib.hid (And.intro hq2 hJx2)
      clear hJx2 hq2
      gi_wp2_with fail
      refine ⟨trivial, ?_⟩
      gi_wp2_with fail
      refine ⟨trivial, ?_⟩
      gi_wp2_with fail
      go_ret
      exact .inr ⟨rfl, q2, HJX.out.1, HJX.out.2⟩
end Go.Proofs.YtjjbhnkplbjfeaaDoor
