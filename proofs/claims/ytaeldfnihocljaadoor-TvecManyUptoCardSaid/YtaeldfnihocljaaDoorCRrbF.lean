/- What a vector hands out from a place on. What a vector hands out from a place on: branches. The iterator From. A vector's items. -/
import Derived.Test.YtaeldfnihocljaaDoorCRg
/- What a vector hands out from a place on. -/
set_option linter.unusedVariables false
set_option linter.unusedSimpArgs false
namespace Go.Proofs.YtaeldfnihocljaaDoor
open Go.RowKit Go.Shelf
attribute [local go_sem] Oper.semAt_some lt_succ_of methLeaf methBranch asNone asSome asLeaf asBranch

/-- Items from place f on, the first of them at place p. -/
def gotL (f : Int) (p : Nat) : List V → List (Nat × V)
  | [] => []
  | x :: xs => (if f ≤ (p : Int) then [(p, x)] else []) ++ gotL f (p + 1) xs
theorem gotL_append (f : Int) : ∀ (a b : List V) (p : Nat), gotL f p (a ++ b) = gotL f p a ++ gotL f (p + a.length) b
  | [], b, p => by simp [gotL]
  | x :: a, b, p => by
    rw [List.cons_append, gotL, gotL_append f a b (p + 1), gotL, List.append_assoc, List.length_cons, show p + 1 + a.length = p + (a.length + 1) by omega]
theorem gotL_none (f : Int) : ∀ (a : List V) (p : Nat), ((p + a.length : Nat) : Int) ≤ f → gotL f p a = []
  | [], p, _ => rfl
  | x :: a, p, h => by
    rw [List.length_cons] at h
    rw [gotL, if_neg (by omega), gotL_none f a (p + 1) (by omega)]
    rfl
theorem gotL_take {f : Int} {p : Nat} {l : List V} {i : Nat} (h : i < l.length) : gotL f p (l.take (i + 1)) = gotL f p (l.take i) ++ (if f ≤ ((p + i : Nat) : Int) then [(p + i, itemAt l i)] else []) := by
  rw [itemAt_take h, gotL_append, List.length_take, Nat.min_eq_left (by omega)]
  simp [gotL]
theorem gotL_kid {f : Int} {p : Nat} {ks : List N} {i : Nat} (h : i < ks.length) : gotL f p (N.flat (ks.take (i + 1))) = gotL f p (N.flat (ks.take i)) ++ gotL f (p + aheadN ks i) (N.items (kidAt ks i)) := by
  rw [kidAt_take h, flat_append, flat_one, gotL_append]
  rfl

/-- What each says of a node. -/
def EachAt (h : Nat) : Prop := ∀ (k : N) (u : Value) (f : Int) (p : Nat) (n l B : Nat) (S : Nat → Prop) (J Jx : List (Nat × V) → World → Prop) (G pre : List (Nat × V)) (W : World),
  Dn h k → IsN W (fun b => S b ∧ b < B) k u → -9223372036854775808 ≤ f → f ≤ 9223372036854775807 → p + (N.items k).length ≤ 4294967296 → Stays J → Round S B l J Jx G → pre ++ gotL f p (N.items k) <+: G → J pre W → B ≤ W.heap.size →
  CallsIn Fence.wide n Tryd.prog 66 #[u, .int .i64 f, .int .i64 (p : Int), .func (.yield l) #[] #[]] W fun e W' => (e = .returned (.bool true) ∧ J (pre ++ gotL f p (N.items k)) W' ∧ Agree S B W W') ∨ (e = .returned (.bool false) ∧ ∃ q, q <+: G ∧ Jx q W')

theorem prefix_left {a b G : List (Nat × V)} (h : a ++ b <+: G) : a <+: G := (List.prefix_append a b).trans h

set_option maxRecDepth 100000 in
set_option maxHeartbeats 8000000 in
theorem each_leaf (m : List V) (A : Option Addr) (cap : Nat) (f : Int) (p : Nat) (n l B : Nat) (S : Nat → Prop) (J Jx : List (Nat × V) → World → Prop) (G pre : List (Nat × V)) (W : World)
    (hA : LA W (fun b => S b ∧ b < B) m A) (hcap : m.length ≤ cap) (hf0 : -9223372036854775808 ≤ f) (hf1 : f ≤ 9223372036854775807) (hp : p + m.length ≤ 4294967296) (hJ : Stays J) (hR : Round S B l J Jx G) (hpre : pre ++ gotL f p m <+: G) (h0 : J pre W) (hB : B ≤ W.heap.size) :
    CallsIn Fence.wide n Tryd.prog 66 #[.iface 87 (.slice A m.length cap), .int .i64 f, .int .i64 (p : Int), .func (.yield l) #[] #[]] W fun e W' => (e = .returned (.bool true) ∧ J (pre ++ gotL f p m) W' ∧ Agree S B W W') ∨ (e = .returned (.bool false) ∧ ∃ q, q <+: G ∧ Jx q W') := by
  have HA := Lib.hid hA
  have HJ := Lib.hid hJ
  have HR := Lib.hid hR
  have HP := Lib.hid hpre
  have H0 := Lib.hid h0
  clear hA hJ hR hpre h0
  refine callsIn_of_wp Tryd.func66 rfl trivial ?_ rfl
  simp only [Tryd.ntmps66, List.size_toArray, List.length_cons, List.length_nil, Nat.reduceAdd, Nat.reduceSub, Array.replicate_succ, Array.replicate_zero, List.push_toArray, List.append_toArray, List.nil_append, List.cons_append]
  gi_wp2_with fail
  gi_loopw [26] (fun vi wr => ∃ i : Nat, vi = .int .i64 i ∧ i ≤ m.length ∧ Hid (J (pre ++ gotL f p (m.take i)) wr) ∧ Agree S B W wr) (fun v _ => m.length - (intOf v).toNat)
  case atStart => exact ⟨0, rfl, by omega, Lib.hid (by simpa [gotL] using H0.out), Agree.refl _ _ _⟩
  case round =>
    obtain ⟨i, rfl, hi, HI, hag⟩ := hrel
    by_cases hlt : i < m.length
    · obtain ⟨ad, A1, cap1, rfl, hla', hbd, f0, f1, f2, f3, hcap1, hLA⟩ := (HA.out.keep (S' := fun b => S b ∧ b < B) hag.keeps).at i hlt
      by_cases ht : f ≤ ((p + i : Nat) : Int)
      · have ht2 : f ≤ (p : Int) + (i : Int) := by omega
        have hX := IsV.mk hbd hcap1 hLA
        have HX := Lib.hid hX
        have hpi : (p : Int) + (i : Int) = ((p + i : Nat) : Int) := by omega
        have hgt : gotL f p (m.take (i + 1)) = gotL f p (m.take i) ++ [(p + i, itemAt m i)] := by rw [gotL_take hlt, if_pos ht]
        have HG : Hid (gotL f p (m.take (i + 1)) = gotL f p (m.take i) ++ [(p + i, itemAt m i)]) := Lib.hid hgt
        have HPP : Hid ((pre ++ gotL f p (m.take i)) ++ [(p + i, itemAt m i)] <+: G) := by
          refine Lib.hid (prefix_left (b := gotL f (p + (i + 1)) (m.drop (i + 1))) ?_)
          have h1 := HP.out
          conv at h1 => lhs; rw [← List.take_append_drop (i + 1) m, gotL_append, hgt]
          rw [List.length_take, Nat.min_eq_left (by omega)] at h1
          simpa [List.append_assoc] using h1
        have HPI := Lib.hid hpi
        clear hX hgt hpi
        gi_wp2_with fail
        refine ⟨trivial, fun h => (by cases h), ?_⟩
        refine (callsIn_wide.2 (own_calls (itemAt m i) _ _ (fun b => S b ∧ b < B) (HX.out.keep (Keeps.alloc _)))).mono ?_
        rintro e w3 ⟨v, rfl, hv, hb3⟩
        have hb4 := below_then ((Below.refl wr.heap.size wr).alloc (Nat.le_refl _) _) (by simp) hb3
        obtain ⟨fn, tmps, assign, body, hy, hRR⟩ := HR.out (pre ++ gotL f p (m.take i)) (p + i) (itemAt m i) v wr w3 HI.out hb4 (hv.keep (Keeps.weak fun b hb => Nat.le_trans (by simp) hb)) HPP.out (n - 1)
        rw [← HPI.out] at hy
        gi_wp2_with fail
        refine ⟨fun h => (by cases h), hRR.mono ?_⟩
        rintro e w5 (⟨rfl, hJ5, hk5⟩ | ⟨rfl, hJx⟩)
        · have HJ5 := Lib.hid hJ5
          clear hJ5
          gi_wp2_with fail
          go_roundw
          case rel => exact ⟨i + 1, by go_num, by omega, Lib.hid (by rw [HG.out, ← List.append_assoc]; exact HJ5.out), (hag.trans (Agree.below hb4 (Nat.le_trans hB hag.1))).trans hk5⟩
          case measure => simp [intOf]; omega
        · gi_wp2_with fail
          go_ret
          exact .inr ⟨rfl, _, HPP.out, hJx⟩
      · have ht2 : ¬ f ≤ (p : Int) + (i : Int) := by omega
        have ht3 : (p : Int) + (i : Int) < f := by omega
        have hd : decide (f ≤ (p : Int) + (i : Int)) = false := by simpa using ht3
        have hd2 : decide ((p : Int) + (i : Int) ≥ f) = false := by simpa using ht3
        have hgt : gotL f p (m.take (i + 1)) = gotL f p (m.take i) := by rw [gotL_take hlt, if_neg ht, List.append_nil]
        have HG : Hid (gotL f p (m.take (i + 1)) = gotL f p (m.take i)) := Lib.hid hgt
        clear hgt
        gi_wp2_with fail
        refine ⟨trivial, ?_⟩
        gi_wp2_with fail
        refine ⟨fun _ h => (by cases h), ?_⟩
        gi_wp2_with fail
        go_roundw
        case rel =>
          have hb4 := (Below.refl wr.heap.size wr).alloc (Nat.le_refl _) (.cells #[.int .i64 (itemAt m i).kind, .int .i64 (itemAt m i).num, .string (itemAt m i).text, .slice A1 (itemAt m i).items.length cap1] 31)
          exact ⟨i + 1, by go_num, by omega, Lib.hid (by rw [HG.out]; exact HJ.out _ _ _ HI.out hb4), hag.trans (Agree.below hb4 (Nat.le_trans hB hag.1))⟩
        case measure => simp [intOf]; omega
    · obtain rfl : i = m.length := by omega
      rw [List.take_length] at HI
      gi_wp2_with fail
      go_ret
      exact .inl ⟨rfl, HI.out, hag⟩
end Go.Proofs.YtaeldfnihocljaaDoor

/- What a vector hands out from a place on: branches. -/
set_option linter.unusedVariables false
set_option linter.unusedSimpArgs false
namespace Go.Proofs.YtaeldfnihocljaaDoor
open Go.RowKit Go.Shelf
attribute [local go_sem] Oper.semAt_some lt_succ_of methLeaf methBranch asNone asSome asLeaf asBranch

set_option maxRecDepth 100000 in
set_option maxHeartbeats 8000000 in
theorem each_branch (h : Nat) (ih : EachAt (h + 1)) (ks : List N) (b : Nat) (f : Int) (p : Nat) (n l B : Nat) (S : Nat → Prop) (J Jx : List (Nat × V) → World → Prop) (G pre : List (Nat × V)) (W : World)
    (hd : Dn (h + 2) (.branch ks)) (hb : IsB W (fun b => S b ∧ b < B) ks b) (hf0 : -9223372036854775808 ≤ f) (hf1 : f ≤ 9223372036854775807) (hp : p + (N.flat ks).length ≤ 4294967296) (hJ : Stays J) (hR : Round S B l J Jx G) (hpre : pre ++ gotL f p (N.flat ks) <+: G) (h0 : J pre W) (hB : B ≤ W.heap.size) :
    CallsIn Fence.wide n Tryd.prog 66 #[.iface 84 (.pointer (some ⟨b, 0, none⟩)), .int .i64 f, .int .i64 (p : Int), .func (.yield l) #[] #[]] W fun e W' => (e = .returned (.bool true) ∧ J (pre ++ gotL f p (N.flat ks)) W' ∧ Agree S B W W') ∨ (e = .returned (.bool false) ∧ ∃ q, q <+: G ∧ Jx q W') := by
  have hk32 := hd.ok.branch.2.1
  have HBR := Lib.hid hb
  have HJ := Lib.hid hJ
  have HR := Lib.hid hR
  have HP := Lib.hid hpre
  have H0 := Lib.hid h0
  have IH := Lib.hid ih
  have HD := Lib.hid hd
  obtain ⟨A, cA, B0, cB, hs, c0, hA, c1, hBc, hk, hu⟩ := hb
  have hbl : b < W.heap.size := World.block_lt_of_cell? W _ c0
  have hbl2 : b < B := hs.2
  clear hJ hR hpre h0 ih hd hk hu
  refine callsIn_of_wp Tryd.func66 rfl trivial ?_ rfl
  simp only [Tryd.ntmps66, List.size_toArray, List.length_cons, List.length_nil, Nat.reduceAdd, Nat.reduceSub, Array.replicate_succ, Array.replicate_zero, List.push_toArray, List.append_toArray, List.nil_append, List.cons_append]
  gi_wp2_with fail
  gi_loopw [52] (fun vi wr => ∃ i : Nat, vi = .int .i64 i ∧ i ≤ ks.length ∧ Hid (J (pre ++ gotL f p (N.flat (ks.take i))) wr) ∧ Agree S B W wr) (fun v _ => ks.length - (intOf v).toNat)
  case atStart => exact ⟨0, rfl, by omega, Lib.hid (by simpa [gotL, N.flat] using H0.out), Agree.refl _ _ _⟩
  case round =>
    obtain ⟨i, rfl, hi, HI, hag⟩ := hrel
    by_cases hlt : i < ks.length
    · obtain ⟨A', cA', B', cB', _, c0', _, c1', _, hk', hu'⟩ := (HBR.out.keep (S' := fun b => S b ∧ b < B) hag.keeps)
      have e0 := hag.2 b hbl2 hs.1
      have d0 : wr.cell? ⟨b, 0, none⟩ = some (.slice (some A) ks.length cA) := (World.cell?_of_block (w := W) e0).trans c0
      have d1 : wr.cell? ⟨b, 1, none⟩ = some (.slice (some B0) ks.length cB) := (World.cell?_of_block (w := W) e0).trans c1
      rw [d0] at c0'
      simp only [Option.some.injEq, Value.slice.injEq] at c0'
      obtain ⟨c0', _, hca⟩ := c0'
      subst c0' hca
      rw [d1] at c1'
      simp only [Option.some.injEq, Value.slice.injEq] at c1'
      obtain ⟨c1', _, hcb1⟩ := c1'
      subst c1' hcb1
      obtain ⟨hsA, u, hu, hcu⟩ := hk'.at i hlt
      rw [Nat.zero_add] at hcu
      obtain ⟨hsB, hcb⟩ := hu' i hlt
      have hbw : b < wr.heap.size := World.block_lt_of_cell? wr _ d0
      have hAw := World.block_lt_of_cell? wr _ hcu
      have hBw := World.block_lt_of_cell? wr _ hcb
      have hup := uptoN_eq hlt
      have hle := uptoN_le ks i
      have hI1 : (i : Int) < (ks.length : Int) := by omega
      have hAB : B ≤ wr.heap.size := Nat.le_trans hB hag.1
      have hgk := gotL_kid (f := f) (p := p) hlt
      by_cases ht : f < ((p + uptoN ks i : Nat) : Int)
      · have HG := Lib.hid hgk
        have hkid := HD.out.kid i hlt
        have hlk : p + aheadN ks i + (N.items (kidAt ks i)).length ≤ 4294967296 := by omega
        have HPK : Hid ((pre ++ gotL f p (N.flat (ks.take i))) ++ gotL f (p + aheadN ks i) (N.items (kidAt ks i)) <+: G) := by
          refine Lib.hid (prefix_left (b := gotL f (p + uptoN ks i) (N.flat (ks.drop (i + 1)))) ?_)
          have h1 := HP.out
          conv at h1 => lhs; rw [← List.take_append_drop (i + 1) ks, flat_append, gotL_append, hgk]
          simpa [List.append_assoc, uptoN] using h1
        have HC := Lib.hid (IH.out (kidAt ks i) u f (p + aheadN ks i) (n - 1) l B S J Jx G (pre ++ gotL f p (N.flat (ks.take i))) wr hkid hu hf0 hf1 hlk HJ.out HR.out HPK.out HI.out hAB)
        have ht2 : f < (p : Int) + (uptoN ks i : Int) := by omega
        have ht3 : ¬ (p : Int) + (uptoN ks i : Int) ≤ f := by omega
        have hw2 : (p : Int) + (uptoN ks i : Int) ≤ 4294967296 := by omega
        by_cases hi0 : i = 0
        · have hz0 : aheadN ks i = 0 := by rw [hi0]; exact aheadN_zero ks
          rw [hz0, Nat.add_zero] at HC HG
          have e1 : ¬ (0 : Int) < (i : Int) := by omega
          have e2 : (i : Int) ≤ 0 := by omega
          clear hi0
          clear hgk hup hle hk' hu' ht hkid hlk hz0 hu
          gi_wp2_with fail
          refine ⟨trivial, fun h => (by cases h), ?_⟩
          refine HC.out.mono ?_
          rintro e w5 (⟨rfl, hJ5, hk5⟩ | ⟨rfl, q, hq, hJx⟩)
          · have HJ5 := Lib.hid hJ5
            clear hJ5
            gi_wp2_with fail
            go_roundw
            case rel => exact ⟨i + 1, by go_num, by omega, Lib.hid (by rw [HG.out, ← List.append_assoc]; exact HJ5.out), hag.trans hk5⟩
            case measure => simp [intOf]; omega
          · gi_wp2_with fail
            go_ret
            exact .inr ⟨rfl, q, hq, hJx⟩

        · obtain ⟨hsB', hcb'⟩ := hu' (i - 1) (by omega)
          have HZ : uptoN ks (i - 1) = aheadN ks i := by rw [← aheadN_succ, show i - 1 + 1 = i by omega]
          rw [HZ] at hcb'
          have e1 : (0 : Int) < (i : Int) := by omega
          have e2 : IntKind.i64.wrap ((i : Int) - 1) = (i : Int) - 1 := IntWalk.i64_in _ (by omega)
          have e3 : (0 : Int) ≤ (i : Int) - 1 := by omega
          have e4 : ((i : Int) - 1).toNat = i - 1 := by omega
          have e5 : (i : Int) - 1 < (ks.length : Int) := by omega
          have e6 : (p : Int) + (aheadN ks i : Int) = ((p + aheadN ks i : Nat) : Int) := by omega
          have e7 : (p : Int) + (aheadN ks i : Int) ≤ 4294967296 := by omega
          rw [← e6] at HC
          have hBw' := World.block_lt_of_cell? wr _ hcb'
          clear hgk hup hle hk' hu' ht hkid hlk HZ hu e6
          gi_wp2_with fail
          refine ⟨trivial, fun h => (by cases h), ?_⟩
          refine HC.out.mono ?_
          rintro e w5 (⟨rfl, hJ5, hk5⟩ | ⟨rfl, q, hq, hJx⟩)
          · have HJ5 := Lib.hid hJ5
            clear hJ5
            gi_wp2_with fail
            go_roundw
            case rel => exact ⟨i + 1, by go_num, by omega, Lib.hid (by rw [HG.out, ← List.append_assoc]; exact HJ5.out), hag.trans hk5⟩
            case measure => simp [intOf]; omega
          · gi_wp2_with fail
            go_ret
            exact .inr ⟨rfl, q, hq, hJx⟩
      · have hz : gotL f (p + aheadN ks i) (N.items (kidAt ks i)) = [] := gotL_none f _ _ (by omega)
        rw [hz, List.append_nil] at hgk
        have HG := Lib.hid hgk
        have ht2 : ¬ f < (p : Int) + (uptoN ks i : Int) := by omega
        have ht3 : (p : Int) + (uptoN ks i : Int) ≤ f := by omega
        have hw2 : (p : Int) + (uptoN ks i : Int) ≤ 4294967296 := by omega
        clear hgk hz hup hle hk' hu' ht
        gi_wp2_with fail
        go_roundw
        case rel => exact ⟨i + 1, by go_num, by omega, Lib.hid (by rw [HG.out]; exact HI.out), hag⟩
        case measure => simp [intOf]; omega
    · obtain rfl : i = ks.length := by omega
      rw [List.take_length] at HI
      gi_wp2_with fail
      go_ret
      exact .inl ⟨rfl, HI.out, hag⟩
theorem each_all : ∀ h, EachAt h
  | 0 => fun k u f p n l B S J Jx G pre W hd => hd.elim
  | 1 => fun k u f p n l B S J Jx G pre W hd hu hf0 hf1 hp hJ hR hpre h0 hB => by
    obtain ⟨m, rfl, _⟩ := hd
    obtain ⟨A, cap, rfl, hc, hA⟩ := hu.leaf_eq
    simp only [N.items] at hp hpre ⊢
    exact each_leaf m A cap f p n l B S J Jx G pre W hA hc hf0 hf1 hp hJ hR hpre h0 hB
  | h + 2 => fun k u f p n l B S J Jx G pre W hd hu hf0 hf1 hp hJ hR hpre h0 hB => by
    obtain ⟨ks, rfl⟩ : ∃ ks, k = .branch ks := by obtain ⟨ks, k', e, _⟩ := hd; exact ⟨_, e⟩
    obtain ⟨b, rfl, hb⟩ := hu.branch_eq
    simp only [N.items] at hp hpre ⊢
    exact each_branch h (each_all (h + 1)) ks b f p n l B S J Jx G pre W hd hb hf0 hf1 hp hJ hR hpre h0 hB
end Go.Proofs.YtaeldfnihocljaaDoor

/- The iterator From. -/
set_option linter.unusedVariables false
set_option linter.unusedSimpArgs false
namespace Go.Proofs.YtaeldfnihocljaaDoor
open Go.RowKit Go.Shelf
attribute [local go_sem] lt_succ_of methLeaf methBranch asNone asSome asLeaf asBranch

theorem drewN_zero (w : World) : w.drewN 0 = w := rfl
theorem branchsize_q (ks : List N) (b : Nat) (w : World) (S : Nat → Prop) (h : IsB w S ks b) (h0 : 0 < ks.length) (h1 : ks.length ≤ 65536) :
    Calls Tryd.prog 105 #[.pointer (some ⟨b, 0, none⟩)] w fun e w' => e = .returned (.int .i64 (N.flat ks).length) ∧ ∃ m, w' = w.drewN m := by
  obtain ⟨A, cA, B, cB, hs, c0, hA, c1, hB, hk, hu⟩ := h
  obtain ⟨hs', hc⟩ := hu (ks.length - 1) (by omega)
  rw [uptoN_last ks h0] at hc
  have hb : b < w.heap.size := World.block_lt_of_cell? w _ c0
  have h2 : IntKind.i64.wrap ((ks.length : Int) - 1) = (ks.length : Int) - 1 := IntWalk.i64_in _ (by omega)
  have h3 : (0 : Int) ≤ (ks.length : Int) - 1 := by omega
  have h4 : ((ks.length : Int) - 1).toNat = ks.length - 1 := by omega
  have h5 : (ks.length : Int) - 1 < (ks.length : Int) := by omega
  have h7 : ks.length - 1 < ks.length := by omega
  clear hk hu
  go_enter Tryd.func105, Tryd.ntmps105
  go_wp2_with fail
  go_quiet (fail)
  go_wp2_with fail
  go_ret
  exact ⟨rfl, _, rfl⟩
theorem len_q (l : List V) (h b : Nat) (w : World) (S : Nat → Prop) (hr : IsR w S l h b) :
    Calls Tryd.prog 24 #[.pointer (some ⟨b, 0, none⟩)] w fun e w' => e = .returned (.int .i64 l.length) ∧ ∃ m, w' = w.drewN m := by
  have hb := hr.at
  obtain ⟨_, _, hl, ⟨rfl, rfl, h0⟩ | ⟨n, u, h0, hu, hn, hd, _⟩⟩ := hr
  · simp only [List.length_nil]
    go_enter Tryd.func24, Tryd.ntmps24
    go_wp2_with fail
    go_ret
    exact ⟨rfl, 0, rfl⟩
  · have hok := hd.ok
    cases n with
    | leaf m =>
      obtain ⟨A, cap, rfl, hc, hA⟩ := hu.leaf_eq
      simp only [N.items] at hn
      subst hn
      clear hA hu hok hd
      go_enter Tryd.func24, Tryd.ntmps24
      go_wp2_with (first | (go_at_call 106; refine (leafsize_calls m A cap w).mono ?_; rintro e w2 ⟨rfl, rfl⟩))
      go_ret
      exact ⟨rfl, 0, rfl⟩
    | branch ks =>
      obtain ⟨b1, rfl, hB⟩ := hu.branch_eq
      obtain ⟨hn0, h32, _⟩ := hok.branch
      simp only [N.items] at hn
      subst hn
      have HC := Lib.hid (branchsize_q ks b1 w _ hB (List.length_pos_iff.2 hn0) (by omega))
      clear hB hu hok hd hn0 h32
      go_enter Tryd.func24, Tryd.ntmps24
      go_wp2_with (first | (go_at_call 105; refine HC.out.mono ?_; rintro e w2 ⟨rfl, m, rfl⟩))
      go_ret
      exact ⟨rfl, m, rfl⟩
theorem from_calls (q : Option Addr) (f : Int) (w : World) :
    Calls Tryd.prog 50 #[.pointer q, .int .i64 f] w fun e w' => e = .returned (.func (.func 65) #[] #[.pointer (some ⟨w.heap.size, 0, none⟩), .pointer (some ⟨w.heap.size + 1, 0, none⟩)]) ∧
      w'.heap[w.heap.size]? = some (.cells #[.pointer q] 23 (0, 0)) ∧ w'.heap[w.heap.size + 1]? = some (.cells #[.int .i64 f] 3 (0, 0)) ∧ Below w.heap.size w w' := by
  have hw1 : ∃ w1, (w.alloc (.cells #[.pointer q] 23)).alloc (.cells #[.int .i64 f] 3) = w1 ∧ w1.heap[w.heap.size]? = some (.cells #[.pointer q] 23 (0, 0)) ∧ w1.heap[w.heap.size + 1]? = some (.cells #[.int .i64 f] 3 (0, 0)) ∧ Below w.heap.size w w1 := by
    refine ⟨_, rfl, ?_, ?_, ((Below.refl _ _).alloc (Nat.le_refl _) _).alloc (by simp) _⟩
    · rw [Below.heap_alloc _ _ _ (by simp)]
      exact heap_alloc_new w _
    · have := heap_alloc_new (w.alloc (.cells #[.pointer q] 23)) (.cells #[.int .i64 f] 3)
      simpa using this
  obtain ⟨w1, hw1, h1, h2, h3⟩ := hw1
  have H1 := Lib.hid h1
  have H2 := Lib.hid h2
  clear h1 h2
  go_enter Tryd.func50, Tryd.ntmps50
  go_wp2_with fail
  go_ret
  exact ⟨rfl, H1.out, H2.out, h3⟩
theorem below_drewN (w : World) (n : Nat) : Below w.heap.size w (w.drewN n) := ⟨rfl, rfl, rfl, Nat.le_refl _, fun _ _ => rfl⟩
set_option maxRecDepth 100000 in
set_option maxHeartbeats 4000000 in
theorem from_each (l : List V) (h b : Nat) (f : Int) (X Y : Nat) (S : Nat → Prop) (w : World) (hX : w.heap[X]? = some (.cells #[.pointer (some ⟨b, 0, none⟩)] 23 (0, 0))) (hY : w.heap[Y]? = some (.cells #[.int .i64 f] 3 (0, 0))) (hr : IsR w S l h b)
    (hf0 : -9223372036854775808 ≤ f) (hf1 : f ≤ 9223372036854775807) : Each 65 #[.pointer (some ⟨X, 0, none⟩), .pointer (some ⟨Y, 0, none⟩)] S w.heap.size (gotL f 0 l) w := by
  intro ll J Jx W hW hJ hJx hR h0 n
  refine callsIn_wide.2 ?_
  have hX1 := blockB hW hX
  have hY1 := blockB hW hY
  have cX : W.cell? ⟨X, 0, none⟩ = some (.pointer (some ⟨b, 0, none⟩)) := by simp [World.cell?, hX1]
  have cY : W.cell? ⟨Y, 0, none⟩ = some (.int .i64 f) := by simp [World.cell?, hY1]
  have hXl : X < W.heap.size := (Array.getElem?_eq_some_iff.1 hX1).1
  have hYl : Y < W.heap.size := (Array.getElem?_eq_some_iff.1 hY1).1
  have hrW := hr.below hW
  have hl65 := hr.2.2.1
  have HLQ := Lib.hid fun (q : Nat) => len_q l h b (W.drewN q) S (hrW.below (below_drewN W q))
  have HJ := Lib.hid hJ
  have HR := Lib.hid hR
  have H0 := Lib.hid h0
  clear hJ hJx hR h0 hX1 hY1 hX hY
  simp only [List.append_toArray, List.cons_append, List.nil_append]
  by_cases hl0 : l.length = 0
  · have e2 : decide ((0 : Int) < (l.length : Int)) = false := by simpa using hl0
    have hg : gotL f 0 l = [] := by rw [List.eq_nil_of_length_eq_zero hl0]; rfl
    rw [hg] at *
    clear hrW hr
    go_enter Tryd.func65, Tryd.ntmps65
    go_wp2_with fail
    go_quiet ((go_at_call 24; exact Calls.quiet_of (HLQ.out _)))
    go_wp2_with fail
    go_end0
    exact ⟨⟨_, rfl⟩, .inl (HJ.out _ _ _ H0.out (below_drewN _ _))⟩
  · have e0 : (0 : Int) < (l.length : Int) := by omega
    have e1 : decide (0 < l.length) = true := by simp; omega
    have e2 : (0 < l.length) = True := by simp; omega
    by_cases hfl : f < (l.length : Int)
    · have e3 : decide (f < (l.length : Int)) = true := by simpa using hfl
      obtain ⟨hsb, _, _, ⟨hl1, _⟩ | ⟨nd, u, hc00, hu0, hn, hd, _⟩⟩ := hr
      · exact absurd (by rw [hl1]; rfl) hl0
      have hc0 := cellB hW hc00
      have hSB : IsN W (fun b => S b ∧ b < w.heap.size) nd u := hu0.keep (Keeps.below_to hW fun b hb hs => ⟨hs, hb⟩)
      have hbl : b < W.heap.size := World.block_lt_of_cell? W _ hc0
      obtain ⟨t, x, rfl⟩ := hu0.form
      have HU := Lib.hid hSB
      have HD := Lib.hid hd
      have HN := Lib.hid hn
      clear hu0 hd hn hSB hc00 hrW
      go_enter Tryd.func65, Tryd.ntmps65
      go_wp2_with fail
      go_quiet ((go_at_call 24; exact Calls.quiet_of (HLQ.out _)))
      go_wp2_with fail
      obtain ⟨W2, hW2⟩ : ∃ W2, W2 = W.drewN nq := ⟨_, rfl⟩
      have hB2 : Below W.heap.size W W2 := by rw [hW2]; exact below_drewN W nq
      rw [← hW2]
      have cX2 := cellB hB2 cX
      have cY2 := cellB hB2 cY
      have hc2 := cellB hB2 hc0
      have hbl2 := World.block_lt_of_cell? W2 _ hc2
      have hXl2 := World.block_lt_of_cell? W2 _ cX2
      have hYl2 := World.block_lt_of_cell? W2 _ cY2
      have hbd := hB2.drew
      clear hW2 cX cY hc0 HLQ
      have hHC : Calls Tryd.prog 66 #[.iface t x, .int .i64 f, .int .i64 0, .func (.yield ll) #[] #[]] W2.drew fun e W' => (e = .returned (.bool true) ∧ J (gotL f 0 l) W') ∨ (e = .returned (.bool false) ∧ ∃ q, q <+: gotL f 0 l ∧ Jx q W') := by
        have h := callsIn_wide.1 (each_all h nd (.iface t x) f 0 0 ll w.heap.size S J Jx (gotL f 0 l) [] W2.drew HD.out (HU.out.keep (Keeps.below hbd)) hf0 hf1 (by rw [HN.out]; omega) HJ.out HR.out (by rw [HN.out]; exact List.prefix_refl _) (HJ.out _ _ _ H0.out hbd) (Nat.le_trans hW.size hbd.size))
        rw [HN.out] at h
        exact h.mono fun e W' hh => hh.imp (fun hh => ⟨hh.1, hh.2.1⟩) id
      have HHC := Lib.hid hHC
      clear hHC hbd
      go_still_tail 6, (by kernel_rfl)
      go_wp2_with (go_at_call 66; refine HHC.out.mono ?_)
      rintro e w5 (⟨rfl, hJ5⟩ | ⟨rfl, q, hq, hJx⟩)
      · have HJ5 := Lib.hid hJ5
        clear hJ5
        go_wp2_with fail
        go_end0
        exact ⟨⟨_, rfl⟩, .inl HJ5.out⟩
      · have HJ5 := Lib.hid hJx
        clear hJx
        go_wp2_with fail
        go_end0
        exact ⟨⟨_, rfl⟩, .inr ⟨q, hq, HJ5.out⟩⟩
    · have e3 : decide (f < (l.length : Int)) = false := by simpa using hfl
      have hg : gotL f 0 l = [] := gotL_none f l 0 (by omega)
      rw [hg] at *
      clear hrW hr
      go_enter Tryd.func65, Tryd.ntmps65
      go_wp2_with fail
      go_quiet ((go_at_call 24; exact Calls.quiet_of (HLQ.out _)))
      go_wp2_with fail
      go_end0
      exact ⟨⟨_, rfl⟩, .inl (HJ.out _ _ _ H0.out (below_drewN _ _))⟩
end Go.Proofs.YtaeldfnihocljaaDoor

/- A vector's items. -/
set_option linter.unusedVariables false
set_option linter.unusedSimpArgs false
namespace Go.Proofs.YtaeldfnihocljaaDoor
open Go.RowKit Go.Shelf
attribute [local go_sem] Oper.semAt_some lt_succ_of

theorem gotL_all {f : Int} : ∀ {l : List V} {p : Nat}, f ≤ (p : Int) → (gotL f p l).map Prod.snd = l
  | [], _, _ => rfl
  | x :: l, p, h => by
    rw [gotL, if_pos h, List.map_append, gotL_all (l := l) (p := p + 1) (by omega)]
    rfl
theorem gotL_length (f : Int) : ∀ (l : List V) (p : Nat), (gotL f p l).length ≤ l.length
  | [], _ => by simp [gotL]
  | x :: l, p => by
    rw [gotL, List.length_append, List.length_cons]
    have := gotL_length f l (p + 1)
    split <;> simp <;> omega
theorem enters_from (args : Array Value) (w : World) : (callFunc 65 args).run Tryd.prog w = .ok (.enter 65 args) w := enters_of Tryd.func65 (by kernel_rfl) rfl args w
set_option maxRecDepth 100000 in
set_option maxHeartbeats 8000000 in
theorem items_calls (l : List V) (h b : Nat) (w : World) (S0 : Nat → Prop) (hr : IsR w S0 l h b) :
    Calls Tryd.prog 32 #[.pointer (some ⟨b, 0, none⟩)] w fun e w' => ∃ v, e = .returned v ∧ IsS w' (fun b => w.heap.size ≤ b) l v ∧ Below w.heap.size w w' := by
  refine (callsIn_wide (n := 9)).1 ?_
  have hl65 := hr.2.2.1
  have hrS : IsR w (fun b => S0 b ∧ b < w.heap.size) l h b := hr.keep fun b hb hs => ⟨⟨hs, hb⟩, rfl⟩
  clear hr
  refine callsIn_of_wp_marks Tryd.func32 rfl trivial ?_ rfl
  simp only [Tryd.ntmps32, List.size_toArray, List.length_cons, List.length_nil, Nat.reduceAdd, Nat.reduceSub, Array.replicate_succ, Array.replicate_zero, List.push_toArray, List.append_toArray, List.nil_append, List.cons_append]
  obtain ⟨w1, hw1, hB1, hsz, hb0⟩ : ∃ w1, w.alloc (.cells #[.slice none 0 0] 22) = w1 ∧ Below w.heap.size w w1 ∧ w.heap.size + 1 = w1.heap.size ∧ w1.heap[w.heap.size]? = some (.cells #[.slice none 0 0] 22 (0, 0)) :=
    ⟨_, rfl, (Below.refl _ _).alloc (Nat.le_refl _) _, by simp, heap_alloc_new w _⟩
  have HC := Lib.hid (callsIn_wide (n := 8).2 (from_calls (some ⟨b, 0, none⟩) 0 w1))
  gi_wp2_with (first | (refine ⟨trivial, ?_⟩; gi_at_call 50; refine HC.out.mono ?_; rintro e w2 ⟨rfl, hX, hY, hb2⟩; have HX := Lib.hid hX; have HY := Lib.hid hY; clear hX hY))
  have hsz2 := hb2.size
  have hB2 : Below w.heap.size w w2 := below_then hB1 hB1.size hb2
  have hb02 := blockB hb2 hb0
  refine range_law 9 (gf := 65) (lb := #[.pointer (some ⟨w1.heap.size, 0, none⟩), .pointer (some ⟨w1.heap.size + 1, 0, none⟩)]) rfl enters_from (G := gotL 0 0 l) (S := fun b => S0 b ∧ b < w.heap.size)
    (from_each l h b 0 _ _ _ w2 HX.out HY.out (hrS.below hB2) (by omega) (by omega)) rfl
    (fun pre W => (∃ v, W.heap[w.heap.size]? = some (.cells #[v] 22 (0, 0)) ∧ OwnL W (w2.heap.size + 2) (fun b => w2.heap.size + 2 ≤ b) (pre.map Prod.snd) v) ∧ Below w.heap.size w W ∧ w2.heap.size ≤ W.heap.size)
    (fun _ _ _ => False) ?hI (fun _ _ _ _ h _ => h) ⟨⟨_, hb02, OwnL.nil _ _ _⟩, hB2, Nat.le_refl _⟩ ?round ?done (fun _ _ _ _ _ _ h _ => h.elim)
  case hI =>
    rintro s W W' ⟨⟨v, hv, hown⟩, hbel, hsz3⟩ hg
    refine ⟨⟨v, (hg.block _ (Array.getElem?_eq_some_iff.1 hv).1 (fun e => by injection e with e; omega)).trans hv, hown.keep (Keeps.grown hg fun k e (h : w2.heap.size + 2 ≤ k) => by injection e with e; omega) fun k hk => hg.block k (hown.own_lt k hk).2 (fun e => by injection e with e; have := (hown.own_lt k hk).1; omega)⟩, hbel.grown hg hbel.size (fun k hk => by injection hk with hk; omega), Nat.le_trans hsz3 hg.size⟩
  case round =>
    rintro l0 pre i x v W0 W m ⟨⟨v0, hv0, hown⟩, hbel, hsz0⟩ hW hszW hv hpre
    obtain ⟨hbd, A, cap, rfl, hcap, hLA⟩ := hv.eq
    gi_wp2
    refine ⟨(Below.refl _ _).alloc (Nat.le_refl _) _, ?_⟩
    rintro Wb hgb ⟨⟨v, hvb, hob⟩, hbelb, hszb⟩
    have hsW := hW.size
    have hne : W.heap.size ≠ w2.heap.size + 1 := by omega
    have hbx : Wb.heap[W.heap.size]? = some (.cells #[.int .i64 x.kind, .int .i64 x.num, .string x.text, .slice A x.items.length cap] 31 (0, 0)) := (hgb.block W.heap.size (by simp) (fun e => hne (by injection e))).trans (heap_alloc_new W _)
    have hvv : v = v0 := by
      have h1 := (hgb.block w.heap.size (by simp; omega) (fun e => by injection e with e; omega)).symm.trans hvb
      rw [Below.heap_alloc _ _ _ (by omega), hW.block w.heap.size (by omega), hv0] at h1
      injection h1 with h1
      injection h1 with h1
      injection h1 with h1
      injection h1 with h1
      exact h1.symm
    subst hvv
    have hown2 := hown.own_lt
    obtain ⟨A2, c2, rfl, hc2⟩ := hob.form
    have hKy : Keeps W (fun b => W0.heap.size ≤ b) Wb (fun b => w2.heap.size + 2 ≤ b ∧ some b ≠ (Value.slice A2 (pre.map Prod.snd).length c2).ownBlock) := by
      refine ((Keeps.alloc _).trans (Keeps.grown hgb fun k e (h : W0.heap.size ≤ k) => by injection e with e; omega)).trans (Keeps.weak fun b (h : W0.heap.size ≤ b) => ⟨by omega, fun e => by have := (hown2 b e.symm).2; omega⟩)
    have hy := VC.mk hbd hcap (hLA.keep hKy)
    have hlen : (pre.map Prod.snd).length ≤ 4294967296 := by
      have h1 := hpre.length_le
      have h2 := gotL_length 0 l 0
      rw [List.length_append] at h1
      rw [List.length_map]
      omega
    have hwb := hgb.size
    simp only [World.size_alloc] at hwb
    gi_wp2
    refine round_items l0 m Wb (w2.heap.size + 2) (fun b => w2.heap.size + 2 ≤ b) w.heap.size W.heap.size (pre.map Prod.snd) A2 c2 x _ _ _ _ _ _ _ _ hvb hbx rfl ⟨_, _, _, rfl⟩ hob (by omega) hlen (by omega) (fun e => by have := (hown2 _ e).1; omega) (fun e => by have := (hown2 _ e).2; omega) hy ?_
    intro a' v1 W' h1 h2 h3
    refine ⟨⟨h3.size, fun k o hk ho hoc => ?_⟩, ⟨h3.size, fun k hk hs => ?_⟩, ⟨⟨v1, h1, by rw [List.map_append]; exact h2⟩, ⟨h3.os.trans hbelb.os, h3.tape.trans hbelb.tape, h3.output.trans hbelb.output, Nat.le_trans hbelb.size h3.size, fun k hk => ?_⟩, Nat.le_trans hszb h3.size⟩⟩
    · have hkl := (Array.getElem?_eq_some_iff.1 ho).1
      refine (h3.block k hkl (fun e => ?_) (fun e => ?_)).trans ho
      · omega
      · obtain ⟨xs, ⟨_, hh⟩, _⟩ := hob
        rcases hh with ⟨hh, _⟩ | ⟨g, cap', cur, hh, hg1, hg2, _⟩
        · rw [hh] at e; cases e
        · rw [hh] at e
          injection e with e
          subst e
          rw [hg2] at ho
          cases ho
          cases hoc
    · exact h3.block k (by omega) (by have := hs.2; omega) (fun e => by have := (hown2 k e.symm).1; omega)
    · rw [h3.block k (by omega) (by omega) (fun e => by have := (hown2 k e.symm).1; omega)]
      exact hbelb.block k hk
  case done =>
    rintro D W hD ⟨⟨v, hv, hown⟩, hbel, hszD⟩ hK
    obtain ⟨A2, c2, rfl, hc2⟩ := hown.form
    have hcv : W.cell? ⟨w.heap.size, 0, none⟩ = some (.slice A2 ((gotL 0 0 l).map Prod.snd).length c2) := by simp [World.cell?, hv]
    have hlen := (Array.getElem?_eq_some_iff.1 hv).1
    have hgl : (gotL 0 0 l).map Prod.snd = l := gotL_all (by simp)
    rw [hgl] at hcv hown hc2
    have HO := Lib.hid hown
    have HV := Lib.hid hv
    clear hown hv
    gi_wp2
    refine ⟨by simp, .inl ⟨_, _, rfl, run_takeDeferred hK, ?_⟩⟩
    have hg := grownBy_putObj' W D (.deferred none)
    have hO2 : OwnL (W.putObj D (.deferred none)) (w2.heap.size + 2) (fun b => w2.heap.size + 2 ≤ b) l (.slice A2 l.length c2) :=
      HO.out.keep (Keeps.grown hg fun k e (h : w2.heap.size + 2 ≤ k) => by injection e with e; omega) fun k hk => hg.block k (HO.out.own_lt k hk).2 (fun e => by injection e with e; have := (HO.out.own_lt k hk).1; omega)
    have hI : IsS (W.putObj D (.deferred none)) (fun b => w.heap.size ≤ b) l (.slice A2 l.length c2) := hO2.is (fun b (h : w2.heap.size + 2 ≤ b) => show w.heap.size ≤ b by omega) (fun b (h : w2.heap.size + 2 ≤ b) => show w.heap.size ≤ b by omega) (by omega)
    exact ⟨_, results_tmp rfl _ _ _, .slice A2 l.length c2, rfl, hI, hbel.grown hg hbel.size (fun k hk => by injection hk with hk; omega)⟩
end Go.Proofs.YtaeldfnihocljaaDoor
