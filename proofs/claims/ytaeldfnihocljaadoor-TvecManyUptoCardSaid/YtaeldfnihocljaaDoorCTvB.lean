/- Transients: what waits is put behind the vector. -/
import Derived.Deep.RegionWith
import Derived.Test.YtaeldfnihocljaaDoorCTvA
import Derived.Test.YtaeldfnihocljaaDoorCRefB

set_option linter.unusedVariables false
set_option linter.unusedSimpArgs false
namespace Go.Proofs.YtaeldfnihocljaaDoor
open Go.RowKit
attribute [local go_sem] lt_succ_of

theorem block3set {w : World} {b : Nat} {c0 c1 c2 d : Value} {t : TypeId} (h : w.heap[b]? = some (.cells #[c0, c1, c2] t (0, 0))) : (w.setCell ⟨b, 1, none⟩ d).heap[b]? = some (.cells #[c0, d, c2] t (0, 0)) := by
  have := blockset h 1 d
  simpa using this
set_option maxRecDepth 100000 in
set_option maxHeartbeats 8000000 in
theorem flush_calls (w : World) (R : Nat → Prop) (x : Tr) (hx : IsTr w R 32 x) (hT : Lib.Utf8Tabs 0 1 w) (hR : ∀ b, R b → b < w.heap.size) :
    Calls Tryd.prog 60 #[.pointer (some ⟨x.t, 0, none⟩)] w fun e w' => e = .returned (.tuple #[]) ∧ But x.own w w' ∧ ∃ x', IsTr w' R 0 x' ∧ x'.t = x.t ∧ x'.op = x.op ∧ x'.m = x.all ∧ x'.wt = [] ∧ (∀ b, x'.own b → x.own b) := by
  obtain ⟨c0, c1, c2, hl, hfr⟩ := hx.cells
  obtain ⟨A, cap, hv, hcap⟩ := hx.form
  have HX := Lib.hid hx
  have HT := Lib.hid hT
  have HV := Lib.hid hv
  have HR := Lib.hid hR
  have hlen := hx.len
  have hfree : ¬ (fun b => ¬ x.own b ∧ ¬ R b) x.t := fun h => h.1 (.inl rfl)
  rw [hv] at c2
  clear hx hT hv hR
  go_enter Tryd.func60, Tryd.ntmps60
  go_wp2_with fail
  go_loopw [9] (fun vi wr => ∃ (i h b : Nat), vi = .int .i64 i ∧ i ≤ x.wt.length ∧ Hid (wr.heap[x.t]? = some (.cells #[.bool x.op, .pointer (some ⟨b, 0, none⟩), x.vw] 105 (0, 0)) ∧ IsR wr (fun b => ¬ x.own b ∧ ¬ R b) (x.m ++ x.wt.take i) h b ∧ OwnL wr 0 (fun b => ¬ x.own b ∧ ¬ R b) x.wt x.vw ∧ But x.own w wr)) (fun v _ => x.wt.length - (intOf v).toNat)
  case atStart => exact ⟨0, x.h, x.b, rfl, by omega, Lib.hid ⟨HX.out.blk, by simpa using HX.out.vec, HX.out.wait, But.of (Below.refl _ _)⟩⟩
  case round =>
    obtain ⟨i, h, b, rfl, hi, HJ⟩ := hrel
    obtain ⟨hblk, hvec, hwait, hbut⟩ := HJ.out
    have hfrr := free4 hblk
    obtain ⟨d0, d1, d2⟩ : wr.cell? ⟨x.t, 0, none⟩ = some (.bool x.op) ∧ wr.cell? ⟨x.t, 1, none⟩ = some (.pointer (some ⟨b, 0, none⟩)) ∧ wr.cell? ⟨x.t, 2, none⟩ = some (.slice A x.wt.length cap) := by
      refine ⟨by simp [World.cell?, hblk], by simp [World.cell?, hblk], by rw [← HV.out]; simp [World.cell?, hblk]⟩
    have hlr := World.block_lt_of_cell? wr _ d0
    have hbl := hvec.at
    by_cases hlt : i < x.wt.length
    · obtain ⟨g, cap', A', c', hvw, hc', _, hgl, f0, f1, f2, f3, hxi⟩ := hwait.item hlt
      have e1 := HV.out.symm.trans hvw
      simp only [Value.slice.injEq, true_and] at e1
      obtain ⟨rfl, rfl⟩ := e1
      have hpl := plus0 g
      obtain ⟨X, hX⟩ : ∃ X, itemAt x.wt i = X := ⟨_, rfl⟩
      have hri := HX.out.right _ (itemAt_mem hlt)
      rw [hX] at f0 f1 f2 f3 hxi hri
      obtain ⟨w3, hw3, hB3, hs3, hk3⟩ := box0 wr 31 (.int .i64 X.kind) (.int .i64 X.num) (.string X.text) (.slice A' X.items.length c')
      have hTr := tabs_but HT.out hbut HX.out.high
      have hE : pushE (x.m ++ x.wt.take i) X = 0 := by
        refine pushE_ok hri ?_
        have h1 := HX.out.small
        unfold Tr.all at h1
        rw [List.length_append] at h1
        rw [List.length_append, List.length_take]
        omega
      have HP := vpush_calls (x.m ++ x.wt.take i) h b X _ w3.drew (fun b => ¬ x.own b ∧ ¬ R b) ((hvec.below hB3).keep Keeps.drew) (((hxi.keep (Keeps.weak (S' := fun b => ¬ x.own b ∧ ¬ R b) fun b h => h.1)).below hB3).keep Keeps.drew) (tabs_below (tabs_below hTr hB3) ((Below.refl _ _).drew))
      rw [hE] at HP
      have HP := Lib.hid HP
      have HXI := Lib.hid hX
      have HB3 := Lib.hid hk3
      have d1' := cellB hB3 d1
      have hlr3 := World.block_lt_of_cell? w3 _ d1'
      have hblk3 := blockB hB3 hblk
      have hfr3 := free4 hblk3
      have HBLK3 := Lib.hid hblk3
      obtain ⟨q0, q1, q2, q3⟩ := block4 hk3
      have HJ0 := Lib.hid HJ.out
      clear hblk hvec hwait hX hri hxi hTr hE hblk3 hk3 HJ d2
      go_wp2_with fail
      go_region_with (go_at_call 20; refine HP.out.mono ?_; rintro e w4 ⟨p, rfl, hp, hb4⟩; obtain ⟨h', b', rfl, hv4⟩ := (hp.resolve_left (fun h => h.1 rfl)).2; have hb5 := below_undrew hb4; have hblk4 := blockB hb5 HBLK3.out; have n1 : w4.cell? ⟨x.t, 1, none⟩ = some (.pointer (some ⟨b, 0, none⟩)) := (by simp [World.cell?, hblk4]); have hfr4 := free4 hblk4; have hlr4 := World.block_lt_of_cell? w4 _ n1; have HBLK4 := Lib.hid hblk4; have HV4 := Lib.hid hv4; clear hp hv4 hblk4)
      all_goals go_wp2_with fail
      all_goals
        go_roundw
        case rel =>
          obtain ⟨_, _, hwait, hbut⟩ := HJ0.out
          have hs3 := hbut.size
          have hs4 := hB3.size
          have hs5 := hb5.size
          have hsd : w3.drew.heap.size = w3.heap.size := rfl
          refine ⟨i + 1, h', b', by go_num, by omega, Lib.hid ⟨block3set HBLK4.out, ?_, ?_, ?_⟩⟩
          · rw [itemAt_take hlt, HXI.out, ← List.append_assoc]
            refine HV4.out.keep ((Keeps.weak fun b hb => ?_).trans (Keeps.set hfree _))
            rcases hb with hb | (hb : w3.drew.heap.size ≤ b)
            · exact hb.1
            · exact ⟨fun h => by have := HX.out.own_lt h; omega, fun h => by have := HR.out b h; omega⟩
          · exact ((hwait.below hB3).below hb5).keep (Keeps.set hfree _) fun k hk => Below.heap_setCell _ _ _ _ (fun e => HX.out.apart (hk.trans (congrArg some e)))
          · exact (hbut.trans ((But.of hB3).trans (But.of hb5))).set (.inr (.inl rfl)) _
        case measure => simp [intOf]; omega
    · obtain rfl : i = x.wt.length := by omega
      have hown : ∀ c, Tr.own ⟨x.op, x.all, h, b, [], x.t, .slice A 0 cap⟩ c ↔ x.own c := fun c => by
        unfold Tr.own
        rw [HV.out]
        cases A <;> simp [Value.ownBlock]
      have HX2 : Hid (IsTr (wr.setCell ⟨x.t, 2, none⟩ (.slice A 0 cap)) R 0 ⟨x.op, x.all, h, b, [], x.t, .slice A 0 cap⟩) := by
        have hK : Keeps wr (fun b => ¬ x.own b ∧ ¬ R b) (wr.setCell ⟨x.t, 2, none⟩ (.slice A 0 cap)) (fun c => ¬ Tr.own ⟨x.op, x.all, h, b, [], x.t, .slice A 0 cap⟩ c ∧ ¬ R c) := (Keeps.set hfree _).trans (Keeps.weak fun c hc => ⟨fun h => hc.1 ((hown c).1 h), hc.2⟩)
        refine Lib.hid ⟨?_, ?_, ?_, by simp, by simpa [Tr.all] using HX.out.small, by simp, ?_, fun c hc => HX.out.free c ((hown c).1 hc), fun c hc => HX.out.high c ((hown c).1 hc)⟩
        · have := blockset hblk 2 (.slice A 0 cap)
          simp at this
          exact this
        · rw [List.take_length] at hvec
          exact hvec.keep hK
        · rw [HV.out] at hwait
          have h0 := hwait.cut 0 (by omega)
          rw [List.take_zero] at h0
          refine h0.keep hK fun k hk => Below.heap_setCell _ _ _ _ (fun e => HX.out.apart ?_)
          rw [HV.out]
          cases A with
          | none => simp [Value.ownBlock] at hk
          | some a => simp [Value.ownBlock] at hk ⊢; rw [hk]; exact e
        · have := HX.out.apart
          rw [HV.out] at this
          cases A with
          | none => simp [Value.ownBlock]
          | some a => simpa [Value.ownBlock] using this
      have HB2 := Lib.hid (hbut.set (p := ⟨x.t, 2, none⟩) (.inr (.inl rfl)) (.slice A 0 cap))
      have HO := Lib.hid hown
      clear hown
      clear hblk hvec hwait HJ hbut
      go_wp2_with fail
      go_end0
      exact ⟨rfl, HB2.out, _, HX2.out, rfl, rfl, rfl, rfl, fun c hc => (HO.out c).1 hc⟩
end Go.Proofs.YtaeldfnihocljaaDoor
