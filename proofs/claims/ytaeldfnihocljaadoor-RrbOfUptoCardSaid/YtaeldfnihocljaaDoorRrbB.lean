/- A branch over nodes. -/
import Derived.Test.YtaeldfnihocljaaDoorRrbA
import Derived.Test.YtaeldfnihocljaaDoorApp2
set_option linter.unusedVariables false
set_option linter.unusedSimpArgs false
namespace Go.Proofs.YtaeldfnihocljaaDoor
open Go.RowKit
attribute [local go_sem] lt_succ_of

theorem methLeaf (A : Option Addr) (n c : Nat) (w : World) : (method 243 87 (.slice A n c) "spinney/rrb.size").run Tryd.prog w = .ok (106, .slice A n c) w := by kernel_rfl
theorem methBranch (A : Addr) (w : World) : (method 243 84 (.pointer (some A)) "spinney/rrb.size").run Tryd.prog w = .ok (105, .pointer (some A)) w := by kernel_rfl
theorem asNone (A : Option Addr) (n c : Nat) (w : World) : (Instr.typeAssert (.iface 87 (.slice A n c)) 81 84 true).run Tryd.prog w = .ok (.tuple #[.pointer none, .bool false]) w := by kernel_rfl
theorem asSome (A : Option Addr) (w : World) : (Instr.typeAssert (.iface 84 (.pointer A)) 81 84 true).run Tryd.prog w = .ok (.tuple #[.pointer A, .bool true]) w := by kernel_rfl
theorem asLeaf (A : Option Addr) (n c : Nat) (w : World) : (Instr.typeAssert (.iface 87 (.slice A n c)) 81 87 false).run Tryd.prog w = .ok (.slice A n c) w := by kernel_rfl
theorem asBranch (A : Option Addr) (w : World) : (Instr.typeAssert (.iface 84 (.pointer A)) 81 84 false).run Tryd.prog w = .ok (.pointer A) w := by kernel_rfl
attribute [local go_sem] methLeaf methBranch
theorem range_upto (ks : List N) (i : Nat) : (List.range (i + 1)).map (uptoN ks) = (List.range i).map (uptoN ks) ++ [uptoN ks i] := by
  rw [List.range_succ, List.map_append, List.map_cons, List.map_nil]

set_option maxRecDepth 100000 in
set_option maxHeartbeats 8000000 in
theorem over_calls (ks : List N) (A : Addr) (cA : Nat) (w : World) (S : Nat → Prop) (hA : ks.length ≤ cA) (hk : KC w S ks A 0) (h0 : 0 < ks.length) (h1 : ks.length ≤ 65536) (hok : ∀ k, k ∈ ks → N.Ok k) (hm : (N.flat ks).length ≤ 4294967296) :
    Calls Tryd.prog 53 #[.slice (some A) ks.length cA] w fun e w' => ∃ b, e = .returned (.pointer (some ⟨b, 0, none⟩)) ∧ IsB w' (fun b => (S b ∧ b < w.heap.size) ∨ w.heap.size ≤ b) ks b ∧ Below w.heap.size w w' := by
  have hk' : KC w (fun b => S b ∧ b < w.heap.size) ks A 0 := hk.keep (Keeps.below_to (Below.refl _ _) fun b h1 h2 => ⟨h2, h1⟩)
  clear hk
  have hw1 : ∃ w1, w.alloc (.cells #[.slice (some A) ks.length cA, .slice none 0 0] 93) = w1 ∧ Below w.heap.size w w1 ∧ w.heap.size + 1 = w1.heap.size ∧ w1.heap[w.heap.size]? = some (.cells #[.slice (some A) ks.length cA, .slice none 0 0] 93 (0, 0)) :=
    ⟨_, rfl, (Below.refl _ _).alloc (Nat.le_refl _) _, by simp, heap_alloc_new w _⟩
  obtain ⟨w1, hw1, hB1, hsz, hb0⟩ := hw1
  have HM := Lib.hid hm
  have HO := Lib.hid hok
  have HK := Lib.hid hk'
  clear hm hok hk'
  go_enter Tryd.func53, Tryd.ntmps53
  go_wp2_with fail
  have hw1 := Lib.hid hw1
  have HB0 := Lib.hid hb0
  clear hb0
  go_loopw [4, 12] (fun vn vi wr => ∃ (i : Nat) (v : Value), vi = .int .i64 i ∧ vn = .int .i64 (aheadN ks i) ∧ i ≤ ks.length ∧ Hid (wr.heap[w.heap.size]? = some (.cells #[.slice (some A) ks.length cA, v] 93 (0, 0))) ∧ Hid (OwnI wr (w.heap.size + 1) ((List.range i).map (uptoN ks)) v) ∧ Below w.heap.size w wr ∧ w.heap.size < wr.heap.size) (fun _ v _ => ks.length - (intOf v).toNat)
  case atStart => exact ⟨0, _, rfl, by rw [aheadN_zero]; rfl, by omega, HB0, Lib.hid (OwnI.nil _ _), hB1, by omega⟩
  case round =>
    obtain ⟨i, v, rfl, rfl, hi, hblk, hown, hf, hsz2⟩ := hrel
    by_cases hlt : i < ks.length
    · obtain ⟨hsA, u, hu, hcu⟩ := (HK.out.keep (Keeps.below hf)).at i hlt
      rw [Nat.zero_add] at hcu
      have hAl := World.block_lt_of_cell? wr _ hcu
      have hOK := HO.out _ (kidAt_mem hlt)
      have hup := uptoN_eq hlt
      have hle := uptoN_le ks i
      have hcv : wr.cell? ⟨w.heap.size, 1, none⟩ = some v := by simp [World.cell?, hblk.out]
      have hll : ((List.range i).map (uptoN ks)).length ≤ 4294967296 := by simp; omega
      have hbs : w.heap.size + 1 ≤ wr.heap.size := by omega
      have hm' := HM.out
      cases hkd : kidAt ks i with
      | leaf l =>
        rw [hkd] at hu hOK hup
        obtain ⟨A1, cap1, rfl, hc1, hl1⟩ := hu.leaf_eq
        simp only [N.items] at hup
        have HS : Hid (wrap64 ((aheadN ks i : Int) + (l.length : Int)) = (uptoN ks i : Int)) := Lib.hid (by rw [show (aheadN ks i : Int) + (l.length : Int) = (uptoN ks i : Int) by omega]; exact IntWalk.wrap64_in _ (by omega))
        have hown' := hown
        have hblk' := hblk
        have hf' := hf
        clear hup hle hm'
        go_wp2_with (first | (go_at_call 106; refine (leafsize_calls l A1 cap1 wr).mono ?_; rintro e w2 ⟨rfl, rfl⟩) | (at_builtin; refine appendI_one (w.heap.size + 1) rfl _ _ rfl v ((List.range i).map (uptoN ks)) (uptoN ks i) _ HS.out rfl rfl hown'.out hbs hll ?_; intro v1 w3 hO4 hg4; obtain ⟨A4, cap4, hv4, hcap4⟩ := hO4.form; rw [show ((List.range i).map (uptoN ks) ++ [uptoN ks i]).length = i + 1 by simp] at hv4; subst hv4; have hO5 := Lib.hid hO4; have hsz3 := hg4.size; have hk3 := hg4.block w.heap.size (by omega) (fun e => by have := (hown'.out.own_lt _ e.symm).1; omega); rw [hblk'.out] at hk3; have hk4 := Lib.hid hk3; have hc4 : w3.cell? ⟨w.heap.size, 1, none⟩ = some v := (by simp [World.cell?, hk3]); have hfz := free4 hk3; clear hO4 hk3))
        go_roundw
        case rel =>
          refine ⟨i + 1, .slice A4 (i + 1) cap4, by go_num, ?_, by omega, Lib.hid ?_, Lib.hid ?_, ?_, ?_⟩
          · rw [HS.out, aheadN_succ]
          · have := blockset hk4.out 1 (.slice A4 (i + 1) cap4)
            simpa using this
          · rw [range_upto]
            exact hO5.out.keep fun k hk => Below.heap_setCell _ _ _ _ (fun e => by have := (hO5.out.own_lt k hk).1; subst e; exact absurd this (Nat.not_succ_le_self _))
          · exact (hf'.grown hg4 (by omega) (fun k hk => by have := (hown'.out.own_lt k hk).1; omega)).setCell (Nat.le_refl _) _
          · simp; omega
        case measure => simp [intOf]; omega
      | branch kk =>
        rw [hkd] at hu hOK hup
        obtain ⟨b1, rfl, hB⟩ := hu.branch_eq
        obtain ⟨hn, h32, _⟩ := hOK.branch
        simp only [N.items] at hup
        have HS : Hid (wrap64 ((aheadN ks i : Int) + ((N.flat kk).length : Int)) = (uptoN ks i : Int)) := Lib.hid (by rw [show (aheadN ks i : Int) + ((N.flat kk).length : Int) = (uptoN ks i : Int) by omega]; exact IntWalk.wrap64_in _ (by omega))
        have HC := Lib.hid (branchsize_calls kk b1 wr _ hB (List.length_pos_iff.2 hn) (by omega))
        clear hup hle hm' hB hOK hn
        go_wp2_with (first | (go_at_call 105; refine (HC.out).mono ?_; rintro e w2 ⟨rfl, hb2⟩; have hsz2' := hb2.size; have hown' := Lib.hid (hown.out.below hb2); have hblk' := Lib.hid (blockB hb2 hblk.out); have hcv' := cellB hb2 hcv; clear hcv; have hf' := below_then hf hf.size hb2; replace hbs := Nat.le_trans hbs hb2.size; clear hown hblk) | (at_builtin; refine appendI_one (w.heap.size + 1) rfl _ _ rfl v ((List.range i).map (uptoN ks)) (uptoN ks i) _ HS.out rfl rfl hown'.out hbs hll ?_; intro v1 w3 hO4 hg4; obtain ⟨A4, cap4, hv4, hcap4⟩ := hO4.form; rw [show ((List.range i).map (uptoN ks) ++ [uptoN ks i]).length = i + 1 by simp] at hv4; subst hv4; have hO5 := Lib.hid hO4; have hsz3 := hg4.size; have hk3 := hg4.block w.heap.size (by omega) (fun e => by have := (hown'.out.own_lt _ e.symm).1; omega); rw [hblk'.out] at hk3; have hk4 := Lib.hid hk3; have hc4 : w3.cell? ⟨w.heap.size, 1, none⟩ = some v := (by simp [World.cell?, hk3]); have hfz := free4 hk3; clear hO4 hk3))
        go_roundw
        case rel =>
          refine ⟨i + 1, .slice A4 (i + 1) cap4, by go_num, ?_, by omega, Lib.hid ?_, Lib.hid ?_, ?_, ?_⟩
          · rw [HS.out, aheadN_succ]
          · have := blockset hk4.out 1 (.slice A4 (i + 1) cap4)
            simpa using this
          · rw [range_upto]
            exact hO5.out.keep fun k hk => Below.heap_setCell _ _ _ _ (fun e => by have := (hO5.out.own_lt k hk).1; subst e; exact absurd this (Nat.not_succ_le_self _))
          · exact (hf'.grown hg4 (by omega) (fun k hk => by have := (hown'.out.own_lt k hk).1; omega)).setCell (Nat.le_refl _) _
          · simp; omega
        case measure => simp [intOf]; omega
    · obtain rfl : i = ks.length := by omega
      obtain ⟨g, cB, hv, hcB, hg, hat⟩ := hown.out.at (by simpa using h0)
      rw [List.length_map, List.length_range] at hv hcB hat
      subst hv
      have hc0 : wr.cell? ⟨w.heap.size, 0, none⟩ = some (.slice (some A) ks.length cA) := by simp [World.cell?, hblk.out]
      have hc1 : wr.cell? ⟨w.heap.size, 1, none⟩ = some (.slice (some ⟨g, 0, none⟩) ks.length cB) := by simp [World.cell?, hblk.out]
      have HH : Hid (IsB wr (fun b => (S b ∧ b < w.heap.size) ∨ w.heap.size ≤ b) ks w.heap.size) := Lib.hid ⟨A, cA, ⟨g, 0, none⟩, cB, .inr (Nat.le_refl _), hc0, hA, hc1, hcB, (HK.out.keep (Keeps.below hf)).keep (Keeps.weak fun b h => .inl h), fun j hj => ⟨.inr (by simp; omega), by
        have := hat j hj
        rw [this]
        simp [List.getD_eq_getElem?_getD, hj]⟩⟩
      clear hat
      go_wp2_with fail
      go_ret
      exact ⟨_, rfl, HH.out, hf⟩
end Go.Proofs.YtaeldfnihocljaaDoor
