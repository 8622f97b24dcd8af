/- Nodes of a vector: how many items, and where one is. A branch over nodes. A tree over items. -/
import Derived.Test.YtaeldfnihocljaaDoorProg
import Derived.Deep.QuietTactic
import Derived.BigQuiet
import Derived.StillTailTactics
import Derived.Test.YtaeldfnihocljaaDoorCBase
/- Nodes of a vector: how many items, and where one is. -/
set_option linter.unusedVariables false
set_option linter.unusedSimpArgs false
namespace Go.Proofs.YtaeldfnihocljaaDoor
open Go.RowKit
attribute [local go_sem] lt_succ_of

theorem leafsize_calls (l : List V) (A : Option Addr) (cap : Nat) (w : World) : Calls Tryd.prog 106 #[.slice A l.length cap] w fun e w' => e = .returned (.int .i64 l.length) ∧ w' = w := by
  go_enter Tryd.func106, Tryd.ntmps106
  go_wp2
  go_ret
  exact ⟨rfl, rfl⟩
theorem uptoN_last (ks : List N) (h : 0 < ks.length) : uptoN ks (ks.length - 1) = (N.flat ks).length := by
  unfold uptoN
  rw [show ks.length - 1 + 1 = ks.length by omega, List.take_length]
theorem branchsize_calls (ks : List N) (b : Nat) (w : World) (S : Nat → Prop) (h : IsB w S ks b) (h0 : 0 < ks.length) (h1 : ks.length ≤ 65536) :
    Calls Tryd.prog 105 #[.pointer (some ⟨b, 0, none⟩)] w fun e w' => e = .returned (.int .i64 (N.flat ks).length) ∧ Below w.heap.size w w' := by
  obtain ⟨A, cA, B, cB, hs, c0, hA, c1, hB, hk, hu⟩ := h
  obtain ⟨hs', hc⟩ := hu (ks.length - 1) (by omega)
  rw [uptoN_last ks h0] at hc
  have hb : b < w.heap.size := World.block_lt_of_cell? w _ c0
  have h2 : IntKind.i64.wrap ((ks.length : Int) - 1) = (ks.length : Int) - 1 := IntWalk.i64_in _ (by omega)
  have h3 : (0 : Int) ≤ (ks.length : Int) - 1 := by omega
  have h4 : ((ks.length : Int) - 1).toNat = ks.length - 1 := by omega
  have h5 : (ks.length : Int) - 1 < (ks.length : Int) := by omega
  have h7 : ks.length - 1 < ks.length := by omega
  clear hk hu
  go_enter Tryd.func105, Tryd.ntmps105
  go_wp2_with fail
  go_quiet (fail)
  go_wp2_with fail
  go_ret
  exact ⟨rfl, ⟨rfl, rfl, rfl, Nat.le_refl _, fun _ _ => rfl⟩⟩
theorem aheadN_le_upto (ks : List N) (i : Nat) : aheadN ks i ≤ uptoN ks i := by
  rcases Nat.lt_or_ge i ks.length with h | h
  · rw [uptoN_eq h]; omega
  · unfold aheadN uptoN
    rw [List.take_of_length_le h, List.take_of_length_le (by omega)]
    exact Nat.le_refl _
theorem uptoN_le (ks : List N) (i : Nat) : uptoN ks i ≤ (N.flat ks).length := by
  unfold uptoN
  conv => rhs; rw [← List.take_append_drop (i + 1) ks, flat_append, List.length_append]
  omega
/-- at: which node below has an item, and its place in there. -/
theorem at_calls (ks : List N) (b i : Nat) (w : World) (S : Nat → Prop) (h : IsB w S ks b) (hi : i < (N.flat ks).length) (hm : (N.flat ks).length ≤ 4294967296) (h1 : ks.length ≤ 65536) :
    Calls Tryd.prog 49 #[.pointer (some ⟨b, 0, none⟩), .int .i64 i] w fun e w' => ∃ k j : Nat, e = .returned (.tuple #[.int .i64 k, .int .i64 j]) ∧ k < ks.length ∧ aheadN ks k + j = i ∧ j < (N.items (kidAt ks k)).length ∧ Below w.heap.size w w' := by
  obtain ⟨A, cA, B, cB, hs, c0, hA, c1, hB, hk, hu⟩ := h
  have hb : b < w.heap.size := World.block_lt_of_cell? w _ c0
  have h0 : 0 < ks.length := by
    rcases Nat.eq_zero_or_pos ks.length with h | h
    · obtain rfl := List.eq_nil_of_length_eq_zero h
      simp [N.flat] at hi
    · exact h
  have HM := Lib.hid hm
  have HI := Lib.hid hi
  have HU := Lib.hid hu
  clear hm hi hu hk
  go_enter Tryd.func49, Tryd.ntmps49
  go_wp2_with fail
  go_loop [6] (fun k => ∃ j : Nat, j < ks.length ∧ k = .int .i64 j ∧ aheadN ks j ≤ i) (fun k => ks.length - (intOf k).toNat)
  case atStart => exact ⟨0, h0, rfl, by rw [aheadN_zero]; omega⟩
  case round =>
    obtain ⟨j, hj, rfl, hle⟩ := hrel
    obtain ⟨hsB, hc⟩ := HU.out j hj
    have hBl := World.block_lt_of_cell? w _ hc
    have hle1 := uptoN_le ks j
    by_cases hlt : uptoN ks j ≤ i
    · have h3 : j + 1 < ks.length := by
        rcases Nat.lt_or_ge (j + 1) ks.length with h | h
        · exact h
        · exfalso
          have : j = ks.length - 1 := by omega
          subst this
          rw [uptoN_last ks h0] at hlt
          have := HI.out
          omega
      have h4 : ((uptoN ks j : Int) ≤ (i : Int)) := by omega
      have HLE := Lib.hid hle
      have HLT := Lib.hid hlt
      clear hle1 hle hlt
      go_wp2_with fail
      go_round
      case rel => exact ⟨j + 1, h3, by go_num, HLT.out⟩
      case measure => simp [intOf]; omega
    · have h4 : ¬ ((uptoN ks j : Int) ≤ (i : Int)) := by omega
      have HX : Hid (j < ks.length ∧ aheadN ks j + (i - aheadN ks j) = i ∧ i - aheadN ks j < (N.items (kidAt ks j)).length) := Lib.hid ⟨hj, by omega, by have := uptoN_eq hj; omega⟩
      by_cases hj0 : j = 0
      · subst hj0
        have HLT := Lib.hid hlt
        have hc0 : w.cell? B = some (.int .i64 (uptoN ks 0)) := by simpa [Addr.add] using hc
        have HZ : Hid (i = i - aheadN ks 0) := Lib.hid (by rw [aheadN_zero]; rfl)
        clear hle1 hle hlt
        go_wp2_with fail
        go_ret2
        refine ⟨0, i - aheadN ks 0, ?_, HX.out.1, HX.out.2.1, HX.out.2.2, Below.refl _ _⟩
        rw [← HZ.out]
        rfl
      · obtain ⟨hsB', hc'⟩ := HU.out (j - 1) (by omega)
        have HZ : Hid (uptoN ks (j - 1) = aheadN ks j) := Lib.hid (by rw [← aheadN_succ, show j - 1 + 1 = j by omega])
        rw [HZ.out] at hc'
        have e1 : (0 : Int) < (j : Int) := by omega
        have e2 : IntKind.i64.wrap ((j : Int) - 1) = (j : Int) - 1 := IntWalk.i64_in _ (by omega)
        have e3 : (0 : Int) ≤ (j : Int) - 1 := by omega
        have e4 : ((j : Int) - 1).toNat = j - 1 := by omega
        have e5 : (j : Int) - 1 < (ks.length : Int) := by omega
        have e6 : IntKind.i64.wrap ((i : Int) - (aheadN ks j : Int)) = ((i - aheadN ks j : Nat) : Int) := by
          rw [IntWalk.i64_in _ (by have := HI.out; have := HM.out; omega)]; omega
        have e7 : j - 1 < ks.length := by omega
        have HLT := Lib.hid hlt
        clear hle1 hle hlt
        go_wp2_with fail
        go_ret2
        exact ⟨j, i - aheadN ks j, by rfl, HX.out.1, HX.out.2.1, HX.out.2.2, Below.refl _ _⟩
end Go.Proofs.YtaeldfnihocljaaDoor

/- A branch over nodes. -/
set_option linter.unusedVariables false
set_option linter.unusedSimpArgs false
namespace Go.Proofs.YtaeldfnihocljaaDoor
open Go.RowKit
attribute [local go_sem] lt_succ_of

theorem methLeaf (A : Option Addr) (n c : Nat) (w : World) : (method 243 87 (.slice A n c) "spinney/rrb.size").run Tryd.prog w = .ok (106, .slice A n c) w := by kernel_rfl
theorem methBranch (A : Addr) (w : World) : (method 243 84 (.pointer (some A)) "spinney/rrb.size").run Tryd.prog w = .ok (105, .pointer (some A)) w := by kernel_rfl
theorem asNone (A : Option Addr) (n c : Nat) (w : World) : (Instr.typeAssert (.iface 87 (.slice A n c)) 81 84 true).run Tryd.prog w = .ok (.tuple #[.pointer none, .bool false]) w := by kernel_rfl
theorem asSome (A : Option Addr) (w : World) : (Instr.typeAssert (.iface 84 (.pointer A)) 81 84 true).run Tryd.prog w = .ok (.tuple #[.pointer A, .bool true]) w := by kernel_rfl
theorem asLeaf (A : Option Addr) (n c : Nat) (w : World) : (Instr.typeAssert (.iface 87 (.slice A n c)) 81 87 false).run Tryd.prog w = .ok (.slice A n c) w := by kernel_rfl
theorem asBranch (A : Option Addr) (w : World) : (Instr.typeAssert (.iface 84 (.pointer A)) 81 84 false).run Tryd.prog w = .ok (.pointer A) w := by kernel_rfl
attribute [local go_sem] methLeaf methBranch
theorem range_upto (ks : List N) (i : Nat) : (List.range (i + 1)).map (uptoN ks) = (List.range i).map (uptoN ks) ++ [uptoN ks i] := by
  rw [List.range_succ, List.map_append, List.map_cons, List.map_nil]

set_option maxRecDepth 100000 in
set_option maxHeartbeats 8000000 in
theorem over_calls (ks : List N) (A : Addr) (cA : Nat) (w : World) (S : Nat → Prop) (hA : ks.length ≤ cA) (hk : KC w S ks A 0) (h0 : 0 < ks.length) (h1 : ks.length ≤ 65536) (hok : ∀ k, k ∈ ks → N.Ok k) (hm : (N.flat ks).length ≤ 4294967296) :
    Calls Tryd.prog 53 #[.slice (some A) ks.length cA] w fun e w' => ∃ b, e = .returned (.pointer (some ⟨b, 0, none⟩)) ∧ IsB w' (fun b => (S b ∧ b < w.heap.size) ∨ w.heap.size ≤ b) ks b ∧ Below w.heap.size w w' := by
  have hk' : KC w (fun b => S b ∧ b < w.heap.size) ks A 0 := hk.keep (Keeps.below_to (Below.refl _ _) fun b h1 h2 => ⟨h2, h1⟩)
  clear hk
  have hw1 : ∃ w1, w.alloc (.cells #[.slice (some A) ks.length cA, .slice none 0 0] 93) = w1 ∧ Below w.heap.size w w1 ∧ w.heap.size + 1 = w1.heap.size ∧ w1.heap[w.heap.size]? = some (.cells #[.slice (some A) ks.length cA, .slice none 0 0] 93 (0, 0)) :=
    ⟨_, rfl, (Below.refl _ _).alloc (Nat.le_refl _) _, by simp, heap_alloc_new w _⟩
  obtain ⟨w1, hw1, hB1, hsz, hb0⟩ := hw1
  have HM := Lib.hid hm
  have HO := Lib.hid hok
  have HK := Lib.hid hk'
  clear hm hok hk'
  go_enter Tryd.func53, Tryd.ntmps53
  go_wp2_with fail
  have hw1 := Lib.hid hw1
  have HB0 := Lib.hid hb0
  clear hb0
  go_loopw [4, 12] (fun vn vi wr => ∃ (i : Nat) (v : Value), vi = .int .i64 i ∧ vn = .int .i64 (aheadN ks i) ∧ i ≤ ks.length ∧ Hid (wr.heap[w.heap.size]? = some (.cells #[.slice (some A) ks.length cA, v] 93 (0, 0))) ∧ Hid (OwnI wr (w.heap.size + 1) ((List.range i).map (uptoN ks)) v) ∧ Below w.heap.size w wr ∧ w.heap.size < wr.heap.size) (fun _ v _ => ks.length - (intOf v).toNat)
  case atStart => exact ⟨0, _, rfl, by rw [aheadN_zero]; rfl, by omega, HB0, Lib.hid (OwnI.nil _ _), hB1, by omega⟩
  case round =>
    obtain ⟨i, v, rfl, rfl, hi, hblk, hown, hf, hsz2⟩ := hrel
    by_cases hlt : i < ks.length
    · obtain ⟨hsA, u, hu, hcu⟩ := (HK.out.keep (Keeps.below hf)).at i hlt
      rw [Nat.zero_add] at hcu
      have hAl := World.block_lt_of_cell? wr _ hcu
      have hOK := HO.out _ (kidAt_mem hlt)
      have hup := uptoN_eq hlt
      have hle := uptoN_le ks i
      have hcv : wr.cell? ⟨w.heap.size, 1, none⟩ = some v := by simp [World.cell?, hblk.out]
      have hll : ((List.range i).map (uptoN ks)).length ≤ 4294967296 := by simp; omega
      have hbs : w.heap.size + 1 ≤ wr.heap.size := by omega
      have hm' := HM.out
      cases hkd : kidAt ks i with
      | leaf l =>
        rw [hkd] at hu hOK hup
        obtain ⟨A1, cap1, rfl, hc1, hl1⟩ := hu.leaf_eq
        simp only [N.items] at hup
        have HS : Hid (wrap64 ((aheadN ks i : Int) + (l.length : Int)) = (uptoN ks i : Int)) := Lib.hid (by rw [show (aheadN ks i : Int) + (l.length : Int) = (uptoN ks i : Int) by omega]; exact IntWalk.wrap64_in _ (by omega))
        have hown' := hown
        have hblk' := hblk
        have hf' := hf
        clear hup hle hm'
        go_wp2_with (first | (go_at_call 106; refine (leafsize_calls l A1 cap1 wr).mono ?_; rintro e w2 ⟨rfl, rfl⟩) | (at_builtin; refine appendI_one (w.heap.size + 1) rfl _ _ rfl v ((List.range i).map (uptoN ks)) (uptoN ks i) _ HS.out rfl rfl hown'.out hbs hll ?_; intro v1 w3 hO4 hg4; obtain ⟨A4, cap4, hv4, hcap4⟩ := hO4.form; rw [show ((List.range i).map (uptoN ks) ++ [uptoN ks i]).length = i + 1 by simp] at hv4; subst hv4; have hO5 := Lib.hid hO4; have hsz3 := hg4.size; have hk3 := hg4.block w.heap.size (by omega) (fun e => by have := (hown'.out.own_lt _ e.symm).1; omega); rw [hblk'.out] at hk3; have hk4 := Lib.hid hk3; have hc4 : w3.cell? ⟨w.heap.size, 1, none⟩ = some v := (by simp [World.cell?, hk3]); have hfz := free4 hk3; clear hO4 hk3))
        go_roundw
        case rel =>
          refine ⟨i + 1, .slice A4 (i + 1) cap4, by go_num, ?_, by omega, Lib.hid ?_, Lib.hid ?_, ?_, ?_⟩
          · rw [HS.out, aheadN_succ]
          · have := blockset hk4.out 1 (.slice A4 (i + 1) cap4)
            simpa using this
          · rw [range_upto]
            exact hO5.out.keep fun k hk => Below.heap_setCell _ _ _ _ (fun e => by have := (hO5.out.own_lt k hk).1; subst e; exact absurd this (Nat.not_succ_le_self _))
          · exact (hf'.grown hg4 (by omega) (fun k hk => by have := (hown'.out.own_lt k hk).1; omega)).setCell (Nat.le_refl _) _
          · simp; omega
        case measure => simp [intOf]; omega
      | branch kk =>
        rw [hkd] at hu hOK hup
        obtain ⟨b1, rfl, hB⟩ := hu.branch_eq
        obtain ⟨hn, h32, _⟩ := hOK.branch
        simp only [N.items] at hup
        have HS : Hid (wrap64 ((aheadN ks i : Int) + ((N.flat kk).length : Int)) = (uptoN ks i : Int)) := Lib.hid (by rw [show (aheadN ks i : Int) + ((N.flat kk).length : Int) = (uptoN ks i : Int) by omega]; exact IntWalk.wrap64_in _ (by omega))
        have HC := Lib.hid (branchsize_calls kk b1 wr _ hB (List.length_pos_iff.2 hn) (by omega))
        clear hup hle hm' hB hOK hn
        go_wp2_with (first | (go_at_call 105; refine (HC.out).mono ?_; rintro e w2 ⟨rfl, hb2⟩; have hsz2' := hb2.size; have hown' := Lib.hid (hown.out.below hb2); have hblk' := Lib.hid (blockB hb2 hblk.out); have hcv' := cellB hb2 hcv; clear hcv; have hf' := below_then hf hf.size hb2; replace hbs := Nat.le_trans hbs hb2.size; clear hown hblk) | (at_builtin; refine appendI_one (w.heap.size + 1) rfl _ _ rfl v ((List.range i).map (uptoN ks)) (uptoN ks i) _ HS.out rfl rfl hown'.out hbs hll ?_; intro v1 w3 hO4 hg4; obtain ⟨A4, cap4, hv4, hcap4⟩ := hO4.form; rw [show ((List.range i).map (uptoN ks) ++ [uptoN ks i]).length = i + 1 by simp] at hv4; subst hv4; have hO5 := Lib.hid hO4; have hsz3 := hg4.size; have hk3 := hg4.block w.heap.size (by omega) (fun e => by have := (hown'.out.own_lt _ e.symm).1; omega); rw [hblk'.out] at hk3; have hk4 := Lib.hid hk3; have hc4 : w3.cell? ⟨w.heap.size, 1, none⟩ = some v := (by simp [World.cell?, hk3]); have hfz := free4 hk3; clear hO4 hk3))
        go_roundw
        case rel =>
          refine ⟨i + 1, .slice A4 (i + 1) cap4, by go_num, ?_, by omega, Lib.hid ?_, Lib.hid ?_, ?_, ?_⟩
          · rw [HS.out, aheadN_succ]
          · have := blockset hk4.out 1 (.slice A4 (i + 1) cap4)
            simpa using this
          · rw [range_upto]
            exact hO5.out.keep fun k hk => Below.heap_setCell _ _ _ _ (fun e => by have := (hO5.out.own_lt k hk).1; subst e; exact absurd this (Nat.not_succ_le_self _))
          · exact (hf'.grown hg4 (by omega) (fun k hk => by have := (hown'.out.own_lt k hk).1; omega)).setCell (Nat.le_refl _) _
          · simp; omega
        case measure => simp [intOf]; omega
    · obtain rfl : i = ks.length := by omega
      obtain ⟨g, cB, hv, hcB, hg, hat⟩ := hown.out.at (by simpa using h0)
      rw [List.length_map, List.length_range] at hv hcB hat
      subst hv
      have hc0 : wr.cell? ⟨w.heap.size, 0, none⟩ = some (.slice (some A) ks.length cA) := by simp [World.cell?, hblk.out]
      have hc1 : wr.cell? ⟨w.heap.size, 1, none⟩ = some (.slice (some ⟨g, 0, none⟩) ks.length cB) := by simp [World.cell?, hblk.out]
      have HH : Hid (IsB wr (fun b => (S b ∧ b < w.heap.size) ∨ w.heap.size ≤ b) ks w.heap.size) := Lib.hid ⟨A, cA, ⟨g, 0, none⟩, cB, .inr (Nat.le_refl _), hc0, hA, hc1, hcB, (HK.out.keep (Keeps.below hf)).keep (Keeps.weak fun b h => .inl h), fun j hj => ⟨.inr (by simp; omega), by
        have := hat j hj
        rw [this]
        simp [List.getD_eq_getElem?_getD, hj]⟩⟩
      clear hat
      go_wp2_with fail
      go_ret
      exact ⟨_, rfl, HH.out, hf⟩
end Go.Proofs.YtaeldfnihocljaaDoor

/- A tree over items. -/
set_option linter.unusedVariables false
set_option linter.unusedSimpArgs false
namespace Go.Proofs.YtaeldfnihocljaaDoor
open Go.RowKit
attribute [local go_sem] lt_succ_of

theorem new_calls (w : World) : Calls Tryd.prog 31 #[] w fun e w' => ∃ b, e = .returned (.pointer (some ⟨b, 0, none⟩)) ∧ IsR w' (fun b => w.heap.size ≤ b) [] 0 b ∧ Below w.heap.size w w' := by
  go_enter Tryd.func31, Tryd.ntmps31
  go_wp2_with fail
  go_ret
  exact ⟨w.heap.size, rfl, ⟨Nat.le_refl _, (cell_new2 w _ _ _).2, by simp, .inl ⟨rfl, rfl, (cell_new2 w _ _ _).1⟩⟩, (Below.refl _ _).alloc (Nat.le_refl _) _⟩

theorem over_part (r : List N) (ad : Addr) (n : Nat) (w : World) (T : Nat → Prop) (hn : n ≤ r.length) (h0 : 0 < n) (h32 : n ≤ 32) (hk : KC w T r ad 0) (hok : ∀ k, k ∈ r → N.Ok k) (hm : (N.flat r).length ≤ 65536) :
    Calls Tryd.prog 53 #[.slice (some ad) n n] w fun e w' => ∃ b, e = .returned (.pointer (some ⟨b, 0, none⟩)) ∧ IsB w' (fun b => (T b ∧ b < w.heap.size) ∨ w.heap.size ≤ b) (r.take n) b ∧ Below w.heap.size w w' := by
  have hl : (r.take n).length = n := by rw [List.length_take]; omega
  have hfl : (N.flat (r.take n)).length ≤ (N.flat r).length := by
    conv => rhs; rw [← List.take_append_drop n r, flat_append, List.length_append]
    omega
  have h := over_calls (r.take n) ad n w T (by omega) (hk.take n) (by omega) (by omega) (fun k hk => hok k (List.mem_of_mem_take hk)) (by omega)
  rw [hl] at h
  exact h

set_option maxRecDepth 100000 in
set_option maxHeartbeats 8000000 in
theorem build_calls (l : List V) (A : Option Addr) (cA : Nat) (w : World) (S : Nat → Prop) (hcA : l.length ≤ cA) (hl : l.length ≤ 65536) (hA : LA w S l A) :
    Calls Tryd.prog 43 #[.slice A l.length cA] w fun e w' => ∃ h b, e = .returned (.pointer (some ⟨b, 0, none⟩)) ∧ IsR w' (Old w S) l h b ∧ Below w.heap.size w w' := by
  by_cases h0 : l.length = 0
  · obtain rfl : l = [] := List.eq_nil_of_length_eq_zero h0
    simp only [List.length_nil]
    go_enter Tryd.func43, Tryd.ntmps43
    go_wp2_with (go_at_call 31; refine (new_calls _).mono ?_; rintro e w2 ⟨b, rfl, hb, hb2⟩)
    go_ret
    exact ⟨0, b, rfl, hb.keep (Keeps.weak fun b h => .inr h), hb2⟩
  · have h1 : ((l.length : Int) == 0) = false := by simpa using h0
    have hA2 : LA w (fun b => S b ∧ b < w.heap.size) l A := hA.keep (Keeps.below_to (Below.refl _ _) fun b h1 h2 => ⟨h2, h1⟩)
    clear hA
    go_enter Tryd.func43, Tryd.ntmps43
    go_wp2_with fail
    have HA := Lib.hid hA2
    clear hA2
    go_loopw [0, 3] (fun vl vk wr => ∃ (r f : List V) (A1 : Option Addr) (c1 : Nat) (ks : List N), vl = .slice A1 r.length c1 ∧ r.length ≤ c1 ∧ r.length + f.length = l.length ∧ Hid (l = f ++ r) ∧ Hid (LA w (fun b => S b ∧ b < w.heap.size) r A1) ∧ Hid (OwnN wr w.heap.size (Old w S) ks vk) ∧ Hid (N.flat ks = f) ∧ Hid (((∀ k, k ∈ ks → Pf 1 k) ∧ (r = [] → ks ≠ []) ∨ r = [] ∧ Lv 1 ks) ∧ ks.length ≤ f.length) ∧ Below w.heap.size w wr) (fun v _ _ => lenV v)
    case atStart => exact ⟨l, [], A, cA, [], rfl, hcA, rfl, Lib.hid rfl, HA, Lib.hid (OwnN.nil _ _ _), Lib.hid rfl, Lib.hid ⟨.inl ⟨by simp, fun h => absurd h (by intro e; subst e; simp at h0)⟩, by simp⟩, Below.refl _ _⟩
    case round =>
      obtain ⟨r, f, A1, c1, ks, rfl, hc1, hrf, HL, HA1, HO, HF, HP, hf⟩ := hrel
      obtain ⟨A2, c2, rfl, hc2⟩ := HO.out.form
      have hkl : ks.length ≤ 65536 := by have := HP.out.2; omega
      have hwr := hf.size
      by_cases hr : 0 < r.length
      · have hr1 : (0 : Int) < (r.length : Int) := by omega
        have hown := fun k hk => (HO.out.own_lt k hk).1
        have HA2 := HA1.out.keep (old_keeps hf hown)
        obtain ⟨ad, rfl, hLC⟩ : ∃ ad, A1 = some ad ∧ LC wr (fun b => Old w S b ∧ some b ≠ (Value.slice A2 ks.length c2).ownBlock) r ad 0 := by
          rcases HA2 with h | h
          · exfalso; subst h; simp at hr
          · exact h
        have HP1 : Hid ((∀ k, k ∈ ks → Pf 1 k) ∧ ks.length ≤ f.length) := by
          obtain ⟨h1 | h1, h2⟩ := HP.out
          · exact Lib.hid ⟨h1.1, h2⟩
          · exfalso; rw [h1.1] at hr; simp at hr
        clear HA2 hown HP
        by_cases h32 : 32 ≤ r.length
        · have h33 : (32 : Int) ≤ (r.length : Int) := by omega
          have HU := Lib.hid (leaf_part (.inr ⟨ad, rfl, hLC⟩) 32 h32)
          clear hLC
          go_wp2_with (first | (at_builtin; refine appendN_one w.heap.size (Old w S) rfl _ _ rfl (.slice A2 ks.length c2) ks (.leaf (r.take 32)) _ rfl rfl HO.out HU.out hwr (by omega) ?_; intro v1 w3 hO4 hg4 hat; have hO5 := Lib.hid hO4; clear hat hO4))
          go_roundw
          case rel =>
            refine ⟨r.drop 32, f ++ r.take 32, (if c1 = 32 then some ad else some ⟨ad.block, ad.off + 128, none⟩), c1 - 32, ks ++ [.leaf (r.take 32)], by simp [List.length_drop], by rw [List.length_drop]; omega, by rw [List.length_drop, List.length_append, List.length_take]; omega, Lib.hid (by rw [HL.out, List.append_assoc, List.take_append_drop]), Lib.hid (HA1.out.drop_if 32 128 c1 rfl (by omega) hc1), hO5, Lib.hid (by rw [flat_append, HF.out, flat_one, N.items]), Lib.hid ⟨.inl ⟨fun k hk => ?_, fun _ => by simp⟩, by have := HP1.out.2; rw [List.length_append, List.length_append, List.length_take]; simp; omega⟩, hf.grown hg4 hwr (fun k hk => (HO.out.own_lt k hk).1)⟩
            rcases List.mem_append.1 hk with hk | hk
            · exact HP1.out.1 k hk
            · rw [List.mem_singleton] at hk
              exact ⟨_, hk, by rw [List.length_take]; omega⟩
          case measure => simp [lenV, List.length_drop]; omega
        · have h33 : ¬ (32 : Int) ≤ (r.length : Int) := by omega
          have HU := Lib.hid (leaf_part (.inr ⟨ad, rfl, hLC⟩) r.length (Nat.le_refl _))
          clear hLC
          go_wp2_with (first | (at_builtin; refine appendN_one w.heap.size (Old w S) rfl _ _ rfl (.slice A2 ks.length c2) ks (.leaf (r.take r.length)) _ rfl rfl HO.out HU.out hwr (by omega) ?_; intro v1 w3 hO4 hg4 hat; have hO5 := Lib.hid hO4; clear hat hO4))
          go_roundw
          case rel =>
            rw [List.take_length] at hO5
            refine ⟨[], f ++ r, _, _, ks ++ [.leaf r], by simp; exact ⟨rfl, rfl⟩, by simp, by rw [List.length_append]; simp; omega, Lib.hid (by rw [HL.out, List.append_nil]), Lib.hid (.inl rfl), hO5, Lib.hid (by rw [flat_append, HF.out, flat_one, N.items]), Lib.hid ⟨.inr ⟨rfl, Lv.snoc HP1.out.1 ⟨r, rfl, List.length_pos_iff.1 hr, by omega⟩⟩, by have := HP1.out.2; rw [List.length_append, List.length_append]; simp; omega⟩, hf.grown hg4 hwr (fun k hk => (HO.out.own_lt k hk).1)⟩
          case measure => simp [lenV]; omega
      · obtain rfl : r = [] := List.eq_nil_of_length_eq_zero (by omega)
        have hr1 : ¬ (0 : Int) < ((([] : List V).length : Nat) : Int) := by simp
        have HLV : Hid (Lv 1 ks ∧ N.flat ks = l) := by
          refine Lib.hid ⟨?_, by rw [HF.out, HL.out, List.append_nil]⟩
          obtain ⟨h1 | h1, h2⟩ := HP.out
          · exact Lv.of_all h1.1 (h1.2 rfl)
          · exact h1.2
        have hne := HLV.out.1.ne
        obtain ⟨ad, rfl, hKC⟩ : ∃ ad, A2 = some ad ∧ KC wr (Old w S) ks ad 0 := by
          obtain ⟨A3, c3, he, h2, h3⟩ := HO.out.is (S' := Old w S) (fun b h => h) (fun b h => .inr h)
          injection he with he1 he2
          subst he1
          exact h3.resolve_left hne
        have HK := Lib.hid hKC
        clear hKC hne HP HF HL HO HA1
        simp only [List.length_nil]
        go_wp2_with fail
        go_loopw [3, 5] (fun vk vh wq => ∃ (h : Nat) (ks : List N) (ad : Addr) (c2 : Nat), vk = .slice (some ad) ks.length c2 ∧ vh = .int .i64 ((h + 1 : Nat) : Int) ∧ ks.length ≤ c2 ∧ ks.length + h ≤ 70000 ∧ Hid (KC wq (Old w S) ks ad 0) ∧ Hid (Lv (h + 1) ks ∧ N.flat ks = l) ∧ Hid (h = 0 ∨ 2 ≤ ks.length ∨ ∃ kk, ks = [.branch kk] ∧ 2 ≤ kk.length) ∧ Below w.heap.size w wq) (fun v _ _ => lenV v)
        case atStart => exact ⟨0, ks, ad, c2, rfl, by simp, hc2, by omega, HK, HLV, Lib.hid (.inl rfl), hf⟩
        clear HLV HK hc2 hkl hf hwr
        case round =>
          obtain ⟨ht, ms, am, cm, rfl, rfl, hcm, hkh, HK, HLV, HT, hf⟩ := hrel
          by_cases h1 : 1 < ms.length
          · have h2 : (1 : Int) < (ms.length : Int) := by omega
            go_wp2_with fail
            have HLEN := Lib.hid h1
            go_loopw [3, 6] (fun vk vu wq => ∃ (r f us : List N) (A2 : Option Addr) (c2 : Nat), vk = .slice A2 r.length c2 ∧ r.length ≤ c2 ∧ r.length + f.length = ms.length ∧ Hid (ms = f ++ r) ∧ Hid (KA wq (fun b => Old w S b ∧ some b ≠ vu.ownBlock) r A2) ∧ Hid (OwnN wq w.heap.size (Old w S) us vu) ∧ Hid (N.flat us = N.flat f) ∧ Hid (((∀ k, k ∈ us → Pf (ht + 2) k) ∧ us.length * 32 = f.length ∧ (r = [] → us ≠ []) ∨ r = [] ∧ Lv (ht + 2) us)) ∧ Hid (us.length * 32 < f.length + 32 ∧ (us = [] → f = []) ∧ (us.length = 1 → us = [.branch f])) ∧ Below w.heap.size w wq) (fun v _ _ => lenV v)
            case atStart => exact ⟨ms, [], [], some am, cm, rfl, hcm, rfl, Lib.hid rfl, Lib.hid (.inr ⟨am, rfl, HK.out.keep (Keeps.weak fun b h => ⟨h, by simp [Value.ownBlock]⟩)⟩), Lib.hid (OwnN.nil _ _ _), Lib.hid rfl, Lib.hid (.inl ⟨by simp, rfl, fun e => by subst e; simp at h1⟩), Lib.hid ⟨by simp, fun _ => rfl, by simp⟩, hf⟩
            case round =>
              obtain ⟨r, g, us, A2, c2, rfl, hc2, hrf, HL, HA1, HO, HF, HP, HQ, hfq⟩ := hrel
              obtain ⟨A3, c3, rfl, hc3⟩ := HO.out.form
              have hul : us.length ≤ 70000 := by have := HQ.out.1; omega
              have hwr := hfq.size
              by_cases hr : 0 < r.length
              · have hr1 : (0 : Int) < (r.length : Int) := by omega
                obtain ⟨ad, rfl, hKC⟩ : ∃ ad, A2 = some ad ∧ KC wr (fun b => Old w S b ∧ some b ≠ (Value.slice A3 us.length c3).ownBlock) r ad 0 := by
                  rcases HA1.out with h | h
                  · exfalso; subst h; simp at hr
                  · exact h
                have HLR : Hid (Lv (ht + 1) r ∧ (N.flat r).length ≤ 65536) := by
                  have h5 := HL.out
                  have h6 : r = ms.drop g.length := by rw [h5, List.drop_left]
                  refine Lib.hid ⟨by rw [h6]; exact HLV.out.1.drop (by omega), ?_⟩
                  have h7 := congrArg List.length HLV.out.2
                  rw [h5, flat_append, List.length_append] at h7
                  omega
                have hok := HLR.out.1.ok
                have hfl := HLR.out.2
                have HP1 : Hid ((∀ k, k ∈ us → Pf (ht + 2) k) ∧ us.length * 32 = g.length) := by
                  rcases HP.out with h1 | h1
                  · exact Lib.hid ⟨h1.1, h1.2.1⟩
                  · exfalso; rw [h1.1] at hr; simp at hr
                clear HA1 HP
                by_cases h32 : 32 ≤ r.length
                · have h33 : (32 : Int) ≤ (r.length : Int) := by omega
                  have HC := Lib.hid (over_part r ad 32 wr _ (by omega) (by omega) (by omega) hKC hok hfl)
                  have HKC := Lib.hid hKC
                  clear hKC hok hfl
                  go_wp2_with (first | (go_at_call 53; refine (HC.out).mono ?_; rintro e w3 ⟨b, rfl, hb, hb3⟩; have HO3 := Lib.hid (HO.out.below hb3); have HU := Lib.hid (IsN.branch_mk (branch_own hb hwr (fun k hk => (HO.out.own_lt k hk).2))); have hb4 := below_then hfq hwr hb3; have hwr3 := hb4.size; clear hb) | (at_builtin; refine appendN_one w.heap.size (Old w S) rfl _ _ rfl (.slice A3 us.length c3) us (.branch (r.take 32)) _ rfl rfl HO3.out HU.out hwr3 (by omega) ?_; intro v1 w4 hO4 hg4 hat; have hO5 := Lib.hid hO4; have HAT := Lib.hid hat; clear hat hO4))
                  · skip
                    go_roundw
                    case rel =>
                      have hKC3 := HKC.out.keep ((Keeps.below hb3).trans (grown_keeps hg4 HAT.out))
                      refine ⟨r.drop 32, g ++ r.take 32, us ++ [.branch (r.take 32)], (if c2 = 32 then some ad else some ⟨ad.block, ad.off + 32, none⟩), c2 - 32, by simp [List.length_drop, h], by rw [List.length_drop]; omega, by rw [List.length_drop, List.length_append, List.length_take]; omega, Lib.hid (by rw [HL.out, List.append_assoc, List.take_append_drop]), Lib.hid (KA.drop_if hKC3 32 c2 (by omega) hc2), hO5, Lib.hid (by rw [flat_append, HF.out, flat_one, flat_append, N.items]), Lib.hid ?_, Lib.hid ⟨by have := HP1.out.2; rw [List.length_append, List.length_append, List.length_take]; simp; omega, by simp, fun h => by
                          have hu : us = [] := List.eq_nil_of_length_eq_zero (by simpa using h)
                          rw [HQ.out.2.1 hu, hu]; rfl⟩, hb4.grown hg4 hwr3 (fun k hk => (HO3.out.own_lt k hk).1)⟩
                      · by_cases h34 : 32 < r.length
                        · exact .inl ⟨fun k hk => by
                            rcases List.mem_append.1 hk with hk | hk
                            · exact HP1.out.1 k hk
                            · rw [List.mem_singleton] at hk
                              exact ⟨_, hk, by rw [List.length_take]; omega, HLR.out.1.take h34⟩, by rw [List.length_append, List.length_append, List.length_take]; simp; have := HP1.out.2; omega, fun _ => by simp⟩
                        · refine .inr ⟨List.drop_eq_nil_of_le (by omega), Lv.snoc HP1.out.1 (by rw [List.take_of_length_le (by omega)]; exact HLR.out.1.dn (by omega))⟩
                    case measure => simp [lenV, List.length_drop]; omega
                  · skip
                    go_roundw
                    case rel =>
                      have hKC3 := HKC.out.keep ((Keeps.below hb3).trans (grown_keeps hg4 HAT.out))
                      refine ⟨r.drop 32, g ++ r.take 32, us ++ [.branch (r.take 32)], (if c2 = 32 then some ad else some ⟨ad.block, ad.off + 32, none⟩), c2 - 32, by simp [List.length_drop, h], by rw [List.length_drop]; omega, by rw [List.length_drop, List.length_append, List.length_take]; omega, Lib.hid (by rw [HL.out, List.append_assoc, List.take_append_drop]), Lib.hid (KA.drop_if hKC3 32 c2 (by omega) hc2), hO5, Lib.hid (by rw [flat_append, HF.out, flat_one, flat_append, N.items]), Lib.hid ?_, Lib.hid ⟨by have := HP1.out.2; rw [List.length_append, List.length_append, List.length_take]; simp; omega, by simp, fun h => by
                          have hu : us = [] := List.eq_nil_of_length_eq_zero (by simpa using h)
                          rw [HQ.out.2.1 hu, hu]; rfl⟩, hb4.grown hg4 hwr3 (fun k hk => (HO3.out.own_lt k hk).1)⟩
                      · by_cases h34 : 32 < r.length
                        · exact .inl ⟨fun k hk => by
                            rcases List.mem_append.1 hk with hk | hk
                            · exact HP1.out.1 k hk
                            · rw [List.mem_singleton] at hk
                              exact ⟨_, hk, by rw [List.length_take]; omega, HLR.out.1.take h34⟩, by rw [List.length_append, List.length_append, List.length_take]; simp; have := HP1.out.2; omega, fun _ => by simp⟩
                        · refine .inr ⟨List.drop_eq_nil_of_le (by omega), Lv.snoc HP1.out.1 (by rw [List.take_of_length_le (by omega)]; exact HLR.out.1.dn (by omega))⟩
                    case measure => simp [lenV, List.length_drop]; omega
                · have h33 : ¬ (32 : Int) ≤ (r.length : Int) := by omega
                  have HC := Lib.hid (over_part r ad r.length wr _ (by omega) (by omega) (by omega) hKC hok hfl)
                  have HKC := Lib.hid hKC
                  clear hKC hok hfl
                  go_wp2_with (first | (go_at_call 53; refine (HC.out).mono ?_; rintro e w3 ⟨b, rfl, hb, hb3⟩; have HO3 := Lib.hid (HO.out.below hb3); have HU := Lib.hid (IsN.branch_mk (branch_own hb hwr (fun k hk => (HO.out.own_lt k hk).2))); have hb4 := below_then hfq hwr hb3; have hwr3 := hb4.size; clear hb) | (at_builtin; refine appendN_one w.heap.size (Old w S) rfl _ _ rfl (.slice A3 us.length c3) us (.branch (r.take r.length)) _ rfl rfl HO3.out HU.out hwr3 (by omega) ?_; intro v1 w4 hO4 hg4 hat; have hO5 := Lib.hid hO4; have HAT := Lib.hid hat; clear hat hO4))
                  · skip
                    go_roundw
                    case rel =>
                      have hKC3 := HKC.out.keep ((Keeps.below hb3).trans (grown_keeps hg4 HAT.out))
                      refine ⟨[], g ++ r, us ++ [.branch r], _, _, ⟨rfl, rfl, rfl⟩, by simp, by rw [List.length_append]; simp; omega, Lib.hid (by rw [HL.out, List.append_nil]), Lib.hid (.inl rfl), by rw [List.take_length] at hO5; exact hO5, Lib.hid (by rw [flat_append, HF.out, flat_one, flat_append, N.items]), Lib.hid (.inr ⟨rfl, Lv.snoc HP1.out.1 (HLR.out.1.dn (by omega))⟩), Lib.hid ⟨by have := HP1.out.2; rw [List.length_append, List.length_append]; simp; omega, by simp, fun h => by
                          have hu : us = [] := List.eq_nil_of_length_eq_zero (by simpa using h)
                          rw [HQ.out.2.1 hu, hu]; rfl⟩, hb4.grown hg4 hwr3 (fun k hk => (HO3.out.own_lt k hk).1)⟩
                    case measure => simp [lenV, List.length_drop]; omega
                  · skip
                    go_roundw
                    case rel =>
                      have hKC3 := HKC.out.keep ((Keeps.below hb3).trans (grown_keeps hg4 HAT.out))
                      refine ⟨[], g ++ r, us ++ [.branch r], _, _, ⟨rfl, rfl, rfl⟩, by simp, by rw [List.length_append]; simp; omega, Lib.hid (by rw [HL.out, List.append_nil]), Lib.hid (.inl rfl), by rw [List.take_length] at hO5; exact hO5, Lib.hid (by rw [flat_append, HF.out, flat_one, flat_append, N.items]), Lib.hid (.inr ⟨rfl, Lv.snoc HP1.out.1 (HLR.out.1.dn (by omega))⟩), Lib.hid ⟨by have := HP1.out.2; rw [List.length_append, List.length_append]; simp; omega, by simp, fun h => by
                          have hu : us = [] := List.eq_nil_of_length_eq_zero (by simpa using h)
                          rw [HQ.out.2.1 hu, hu]; rfl⟩, hb4.grown hg4 hwr3 (fun k hk => (HO3.out.own_lt k hk).1)⟩
                    case measure => simp [lenV, List.length_drop]; omega
              · obtain rfl : r = [] := List.eq_nil_of_length_eq_zero (by omega)
                have hr1 : ¬ (0 : Int) < ((([] : List N).length : Nat) : Int) := by simp
                have hgm : g = ms := by rw [HL.out, List.append_nil]
                subst hgm
                have HLV2 : Hid (Lv (ht + 2) us ∧ N.flat us = l) := by
                  refine Lib.hid ⟨?_, by rw [HF.out, HLV.out.2]⟩
                  rcases HP.out with h1 | h1
                  · exact Lv.of_all h1.1 (h1.2.2 rfl)
                  · exact h1.2
                have hne := HLV2.out.1.ne
                obtain ⟨ad, rfl, hKC⟩ : ∃ ad, A3 = some ad ∧ KC wr (Old w S) us ad 0 := by
                  obtain ⟨A4, c4, he, h2, h3⟩ := HO.out.is (S' := Old w S) (fun b h => h) (fun b h => .inr h)
                  injection he with he1 he2
                  subst he1
                  exact h3.resolve_left hne
                have HK2 := Lib.hid hKC
                have HQ1 := HQ.out.1
                have hh : ((ht + 1 : Nat) : Int) + 1 = ((ht + 1 + 1 : Nat) : Int) := by omega
                clear hKC hne HP HF HL HO HA1
                simp only [List.length_nil]
                go_wp2_with fail
                go_roundw
                case rel =>
                  refine ⟨ht + 1, us, ad, c3, rfl, by go_num, hc3, by have := HLEN.out; omega, HK2, HLV2, Lib.hid ?_, hfq⟩
                  by_cases h2 : 2 ≤ us.length
                  · exact .inr (.inl h2)
                  · refine .inr (.inr ⟨_, HQ.out.2.2 (by have := List.length_pos_iff.2 HLV2.out.1.ne; omega), HLEN.out⟩)
                case measure =>
                  have := HLEN.out
                  simp [lenV]
                  omega
          · have h2 : ¬ (1 : Int) < (ms.length : Int) := by omega
            have h3 : ms.length = 1 := by have := HLV.out.1.ne; have := List.length_pos_iff.2 this; omega
            obtain ⟨k, rfl⟩ : ∃ k, ms = [k] := List.length_eq_one_iff.1 h3
            have hk := HK.out
            simp only [KC] at hk
            obtain ⟨hS, ⟨u, hu, hcu⟩, _⟩ := hk
            have hc0 : wr.cell? am = some u := by simpa [Addr.add] using hcu
            have hal := World.block_lt_of_cell? wr _ hc0
            obtain ⟨t, x, rfl⟩ := hu.form
            have HR : Hid (N.items k = l ∧ Dn (ht + 1) k ∧ (ht + 1 = 1 ∨ ∃ ks, k = .branch ks ∧ 2 ≤ ks.length)) := by
              obtain ⟨⟨js, k', e, _, h5⟩, h6⟩ := HLV.out
              have h7 : k' = k := by
                have := congrArg List.getLast? e
                simpa using this.symm
              subst h7
              rw [flat_one] at h6
              refine Lib.hid ⟨h6, h5, ?_⟩
              rcases HT.out with h8 | h8 | ⟨kk, h8, h9⟩
              · exact .inl (by omega)
              · simp at h8
              · injection h8 with h8 _
                exact .inr ⟨kk, h8, h9⟩
            have HU := Lib.hid hu
            clear hu hcu
            simp only [List.length_cons, List.length_nil] at hcm h2 h1 hkh ⊢
            go_wp2_with fail
            go_ret
            have hK : Keeps wr (Old w S) (wr.alloc (.cells #[.iface t x, .int .i64 ((ht : Int) + 1)] 83)) (Old w S) := Keeps.alloc _
            exact ⟨ht + 1, wr.heap.size, rfl, ⟨.inr hf.size, by rw [(cell_new2 wr _ _ _).2]; rfl, hl, .inr ⟨k, _, (cell_new2 wr _ _ _).1, HU.out.keep hK, HR.out⟩⟩, hf.alloc hf.size _⟩
end Go.Proofs.YtaeldfnihocljaaDoor
