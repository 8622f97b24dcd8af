/- What a vector hands out from a place on: branches. -/
import Derived.Test.YtaeldfnihocljaaDoorRrbF
set_option linter.unusedVariables false
set_option linter.unusedSimpArgs false
namespace Go.Proofs.YtaeldfnihocljaaDoor
open Go.RowKit Go.Shelf
attribute [local go_sem] Oper.semAt_some lt_succ_of methLeaf methBranch asNone asSome asLeaf asBranch

set_option maxRecDepth 100000 in
set_option maxHeartbeats 8000000 in
theorem each_branch (h : Nat) (ih : EachAt (h + 1)) (ks : List N) (b : Nat) (f : Int) (p : Nat) (n l B : Nat) (S : Nat → Prop) (J Jx : List (Nat × V) → World → Prop) (G pre : List (Nat × V)) (W : World)
    (hd : Dn (h + 2) (.branch ks)) (hb : IsB W (fun b => S b ∧ b < B) ks b) (hf0 : -9223372036854775808 ≤ f) (hf1 : f ≤ 9223372036854775807) (hp : p + (N.flat ks).length ≤ 4294967296) (hJ : Stays J) (hR : Round S B l J Jx G) (hpre : pre ++ gotL f p (N.flat ks) <+: G) (h0 : J pre W) (hB : B ≤ W.heap.size) :
    CallsIn Fence.wide n Tryd.prog 66 #[.iface 84 (.pointer (some ⟨b, 0, none⟩)), .int .i64 f, .int .i64 (p : Int), .func (.yield l) #[] #[]] W fun e W' => (e = .returned (.bool true) ∧ J (pre ++ gotL f p (N.flat ks)) W' ∧ Agree S B W W') ∨ (e = .returned (.bool false) ∧ ∃ q, q <+: G ∧ Jx q W') := by
  have hk32 := hd.ok.branch.2.1
  have HBR := Lib.hid hb
  have HJ := Lib.hid hJ
  have HR := Lib.hid hR
  have HP := Lib.hid hpre
  have H0 := Lib.hid h0
  have IH := Lib.hid ih
  have HD := Lib.hid hd
  obtain ⟨A, cA, B0, cB, hs, c0, hA, c1, hBc, hk, hu⟩ := hb
  have hbl : b < W.heap.size := World.block_lt_of_cell? W _ c0
  have hbl2 : b < B := hs.2
  clear hJ hR hpre h0 ih hd hk hu
  refine callsIn_of_wp Tryd.func66 rfl trivial ?_ rfl
  simp only [Tryd.ntmps66, List.size_toArray, List.length_cons, List.length_nil, Nat.reduceAdd, Nat.reduceSub, Array.replicate_succ, Array.replicate_zero, List.push_toArray, List.append_toArray, List.nil_append, List.cons_append]
  gi_wp2_with fail
  gi_loopw [52] (fun vi wr => ∃ i : Nat, vi = .int .i64 i ∧ i ≤ ks.length ∧ Hid (J (pre ++ gotL f p (N.flat (ks.take i))) wr) ∧ Agree S B W wr) (fun v _ => ks.length - (intOf v).toNat)
  case atStart => exact ⟨0, rfl, by omega, Lib.hid (by simpa [gotL, N.flat] using H0.out), Agree.refl _ _ _⟩
  case round =>
    obtain ⟨i, rfl, hi, HI, hag⟩ := hrel
    by_cases hlt : i < ks.length
    · obtain ⟨A', cA', B', cB', _, c0', _, c1', _, hk', hu'⟩ := (HBR.out.keep (S' := fun b => S b ∧ b < B) hag.keeps)
      have e0 := hag.2 b hbl2 hs.1
      have d0 : wr.cell? ⟨b, 0, none⟩ = some (.slice (some A) ks.length cA) := (World.cell?_of_block (w := W) e0).trans c0
      have d1 : wr.cell? ⟨b, 1, none⟩ = some (.slice (some B0) ks.length cB) := (World.cell?_of_block (w := W) e0).trans c1
      rw [d0] at c0'
      simp only [Option.some.injEq, Value.slice.injEq] at c0'
      obtain ⟨c0', _, hca⟩ := c0'
      subst c0' hca
      rw [d1] at c1'
      simp only [Option.some.injEq, Value.slice.injEq] at c1'
      obtain ⟨c1', _, hcb1⟩ := c1'
      subst c1' hcb1
      obtain ⟨hsA, u, hu, hcu⟩ := hk'.at i hlt
      rw [Nat.zero_add] at hcu
      obtain ⟨hsB, hcb⟩ := hu' i hlt
      have hbw : b < wr.heap.size := World.block_lt_of_cell? wr _ d0
      have hAw := World.block_lt_of_cell? wr _ hcu
      have hBw := World.block_lt_of_cell? wr _ hcb
      have hup := uptoN_eq hlt
      have hle := uptoN_le ks i
      have hI1 : (i : Int) < (ks.length : Int) := by omega
      have hAB : B ≤ wr.heap.size := Nat.le_trans hB hag.1
      have hgk := gotL_kid (f := f) (p := p) hlt
      by_cases ht : f < ((p + uptoN ks i : Nat) : Int)
      · have HG := Lib.hid hgk
        have hkid := HD.out.kid i hlt
        have hlk : p + aheadN ks i + (N.items (kidAt ks i)).length ≤ 4294967296 := by omega
        have HPK : Hid ((pre ++ gotL f p (N.flat (ks.take i))) ++ gotL f (p + aheadN ks i) (N.items (kidAt ks i)) <+: G) := by
          refine Lib.hid (prefix_left (b := gotL f (p + uptoN ks i) (N.flat (ks.drop (i + 1)))) ?_)
          have h1 := HP.out
          conv at h1 => lhs; rw [← List.take_append_drop (i + 1) ks, flat_append, gotL_append, hgk]
          simpa [List.append_assoc, uptoN] using h1
        have HC := Lib.hid (IH.out (kidAt ks i) u f (p + aheadN ks i) (n - 1) l B S J Jx G (pre ++ gotL f p (N.flat (ks.take i))) wr hkid hu hf0 hf1 hlk HJ.out HR.out HPK.out HI.out hAB)
        have ht2 : f < (p : Int) + (uptoN ks i : Int) := by omega
        have ht3 : ¬ (p : Int) + (uptoN ks i : Int) ≤ f := by omega
        have hw2 : (p : Int) + (uptoN ks i : Int) ≤ 4294967296 := by omega
        by_cases hi0 : i = 0
        · have hz0 : aheadN ks i = 0 := by rw [hi0]; exact aheadN_zero ks
          rw [hz0, Nat.add_zero] at HC HG
          have e1 : ¬ (0 : Int) < (i : Int) := by omega
          have e2 : (i : Int) ≤ 0 := by omega
          clear hi0
          clear hgk hup hle hk' hu' ht hkid hlk hz0 hu
          gi_wp2_with fail
          refine ⟨trivial, fun h => (by cases h), ?_⟩
          refine HC.out.mono ?_
          rintro e w5 (⟨rfl, hJ5, hk5⟩ | ⟨rfl, q, hq, hJx⟩)
          · have HJ5 := Lib.hid hJ5
            clear hJ5
            gi_wp2_with fail
            go_roundw
            case rel => exact ⟨i + 1, by go_num, by omega, Lib.hid (by rw [HG.out, ← List.append_assoc]; exact HJ5.out), hag.trans hk5⟩
            case measure => simp [intOf]; omega
          · gi_wp2_with fail
            go_ret
            exact .inr ⟨rfl, q, hq, hJx⟩

        · obtain ⟨hsB', hcb'⟩ := hu' (i - 1) (by omega)
          have HZ : uptoN ks (i - 1) = aheadN ks i := by rw [← aheadN_succ, show i - 1 + 1 = i by omega]
          rw [HZ] at hcb'
          have e1 : (0 : Int) < (i : Int) := by omega
          have e2 : IntKind.i64.wrap ((i : Int) - 1) = (i : Int) - 1 := IntWalk.i64_in _ (by omega)
          have e3 : (0 : Int) ≤ (i : Int) - 1 := by omega
          have e4 : ((i : Int) - 1).toNat = i - 1 := by omega
          have e5 : (i : Int) - 1 < (ks.length : Int) := by omega
          have e6 : (p : Int) + (aheadN ks i : Int) = ((p + aheadN ks i : Nat) : Int) := by omega
          have e7 : (p : Int) + (aheadN ks i : Int) ≤ 4294967296 := by omega
          rw [← e6] at HC
          have hBw' := World.block_lt_of_cell? wr _ hcb'
          clear hgk hup hle hk' hu' ht hkid hlk HZ hu e6
          gi_wp2_with fail
          refine ⟨trivial, fun h => (by cases h), ?_⟩
          refine HC.out.mono ?_
          rintro e w5 (⟨rfl, hJ5, hk5⟩ | ⟨rfl, q, hq, hJx⟩)
          · have HJ5 := Lib.hid hJ5
            clear hJ5
            gi_wp2_with fail
            go_roundw
            case rel => exact ⟨i + 1, by go_num, by omega, Lib.hid (by rw [HG.out, ← List.append_assoc]; exact HJ5.out), hag.trans hk5⟩
            case measure => simp [intOf]; omega
          · gi_wp2_with fail
            go_ret
            exact .inr ⟨rfl, q, hq, hJx⟩
      · have hz : gotL f (p + aheadN ks i) (N.items (kidAt ks i)) = [] := gotL_none f _ _ (by omega)
        rw [hz, List.append_nil] at hgk
        have HG := Lib.hid hgk
        have ht2 : ¬ f < (p : Int) + (uptoN ks i : Int) := by omega
        have ht3 : (p : Int) + (uptoN ks i : Int) ≤ f := by omega
        have hw2 : (p : Int) + (uptoN ks i : Int) ≤ 4294967296 := by omega
        clear hgk hz hup hle hk' hu' ht
        gi_wp2_with fail
        go_roundw
        case rel => exact ⟨i + 1, by go_num, by omega, Lib.hid (by rw [HG.out]; exact HI.out), hag⟩
        case measure => simp [intOf]; omega
    · obtain rfl : i = ks.length := by omega
      rw [List.take_length] at HI
      gi_wp2_with fail
      go_ret
      exact .inl ⟨rfl, HI.out, hag⟩
theorem each_all : ∀ h, EachAt h
  | 0 => fun k u f p n l B S J Jx G pre W hd => hd.elim
  | 1 => fun k u f p n l B S J Jx G pre W hd hu hf0 hf1 hp hJ hR hpre h0 hB => by
    obtain ⟨m, rfl, _⟩ := hd
    obtain ⟨A, cap, rfl, hc, hA⟩ := hu.leaf_eq
    simp only [N.items] at hp hpre ⊢
    exact each_leaf m A cap f p n l B S J Jx G pre W hA hc hf0 hf1 hp hJ hR hpre h0 hB
  | h + 2 => fun k u f p n l B S J Jx G pre W hd hu hf0 hf1 hp hJ hR hpre h0 hB => by
    obtain ⟨ks, rfl⟩ : ∃ ks, k = .branch ks := by obtain ⟨ks, k', e, _⟩ := hd; exact ⟨_, e⟩
    obtain ⟨b, rfl, hb⟩ := hu.branch_eq
    simp only [N.items] at hp hpre ⊢
    exact each_branch h (each_all (h + 1)) ks b f p n l B S J Jx G pre W hd hb hf0 hf1 hp hJ hR hpre h0 hB
end Go.Proofs.YtaeldfnihocljaaDoor
