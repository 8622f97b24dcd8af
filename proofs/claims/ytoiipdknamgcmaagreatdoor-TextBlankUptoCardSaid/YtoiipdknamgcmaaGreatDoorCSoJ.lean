/- value.Set. -/
import Derived.Test.YtoiipdknamgcmaaGreatDoorCSoF
import Derived.Test.YtoiipdknamgcmaaGreatDoorCRdM

set_option linter.unusedVariables false
set_option linter.unusedSimpArgs false
namespace Go.Proofs.YtoiipdknamgcmaaGreatDoor
open Go.RowKit Go.Shelf
attribute [local go_sem] lt_succ_of

theorem set_fin {l l' l2 : List V} (hp : l' = sortV l) (hl : l'.length = l.length) (hok : listOk l = true) (hc : (Apart l' ∧ l2 = l') ∨ (¬ Apart l' ∧ l2.length < l'.length)) :
    (SetOk l ∧ (if rightB (V.kd 5 l2) = true then V.kd 5 l2 else V.zero) = V.set (sortV l)) ∨ (¬ SetOk l ∧ (if rightB (V.kd 5 l2) = true then V.kd 5 l2 else V.zero).items.length < l.length) := by
  rcases hc with ⟨ha, rfl⟩ | ⟨ha, hlt⟩
  · by_cases hr : rightB (V.kd 5 l2) = true
    · rw [if_pos hr]
      rw [hp] at hr ⊢
      exact .inl ⟨⟨hok, hr⟩, rfl⟩
    · rw [if_neg hr]
      refine .inr ⟨fun h => hr (by rw [hp]; exact h.2), ?_⟩
      show 0 < l.length
      rcases l with _ | ⟨x, l⟩
      · rw [hp] at hr
        exact absurd set_nil_right hr
      · simp
  · refine .inr ⟨fun h => ha (by rw [hp]; exact set_apart h.2), ?_⟩
    split
    · show l2.length < l.length
      omega
    · show 0 < l.length
      omega
theorem set_len {l l' l2 : List V} (hl : l.length ≤ 65536) (he : l'.length = l.length) (hc : (Apart l' ∧ l2 = l') ∨ (¬ Apart l' ∧ l2.length < l'.length)) : l2.length ≤ 4294967296 := by
  rcases hc with ⟨_, rfl⟩ | ⟨_, h⟩ <;> omega
set_option maxRecDepth 100000 in
set_option maxHeartbeats 4000000 in
theorem set_calls : SetC := by
  intro l vl w S hl hTb hle
  have hT : Lib.Utf8Tabs 1 2 w := hTb.utf
  obtain ⟨w1, hw1, hB1, hsz, hb0⟩ := box1 w (.int .i64 0) (.int .i64 0) (.string ⟨#[]⟩) (.slice none 0 0) 24
  have HV := values_calls l vl w1 S (hl.below hB1) (tabs_below hT hB1)
  have HCl := Lib.hid fun (W : World) (hb : Below w1.heap.size w1 W) => clone_calls l vl W S (hl.below (below_then hB1 hB1.size hb))
  have HT1 := Lib.hid (tabs_below hT hB1)
  obtain ⟨A, ca, rfl, hca, hla, hA⟩ := hl
  clear hT hA hTb
  obtain ⟨e0, e1, e2, e3⟩ := block4 hb0
  have HB0 := Lib.hid hb0
  clear hb0
  by_cases h0 : listE l = 0
  · rw [h0] at HV
    have HV := Lib.hid HV
    have HL := Lib.hid (listE_short h0)
    have HOk := Lib.hid ((listOk_iff l).2 h0)
    clear h0
    go_enter Tryz.func58, Tryz.ntmps58
    go_wp2_with (first
      | (go_at_call 85; refine HV.out.mono ?_; rintro e w2 ⟨rfl, hb2⟩)
      | (go_at_call 86; refine (HCl.out _ hb2).mono ?_; rintro e w3 ⟨v', rfl, hO3, hb3⟩; have HO3 := Lib.hid hO3.rowO; clear hO3)
      | (go_at_call 87; refine (sortO l v' w2.heap.size w3 _ (fun b h => h) HO3.out HL.out.1).mono ?_; rintro e w4 ⟨rfl, l', hp, hs, hO4, hB4⟩; have HO4 := Lib.hid hO4; have hb4 := Lib.hid (hb3.trans (hB4.below hb3.size (fun b h => h))); have HP := Lib.hid (sort_eq HL.out.2 hp hs); have HLe := Lib.hid hp.length_eq; clear hp hs hO4 hB4)
      | (go_at_call 88; refine (compactO l' v' w2.heap.size _ _ (fun b h => h) HO4.out (by have := HL.out.1; have := HLe.out; omega)).mono ?_; rintro e w5 ⟨l2, v2, rfl, hO5, hB5, hc5⟩; have HO5 := Lib.hid hO5; have hb5 := Lib.hid (hb4.out.trans (hB5.below hb4.out.size (fun b h => h))); have HX := Lib.hid (set_fin HP.out HLe.out HOk.out hc5); have HL5 := Lib.hid (set_len HL.out.1 HLe.out hc5); clear hO5 hB5 hc5)
      | (go_at_call 84; refine (made_kind 5 ⟨by decide, by decide⟩ l2 v2 w5 (fun _ => True) (HO5.out.is HL5.out (fun _ _ => trivial) (fun _ _ => trivial)) (tabs_below (tabs_below HT1.out hb2) hb5.out)).mono ?_; rintro e w6 ⟨v, rfl, hv, hb6⟩; replace hb6 := Lib.hid (hb5.out.trans (hb6.mono hb5.out.size)); obtain ⟨X, hX⟩ : ∃ X, (if rightB (V.kd 5 l2) = true then V.kd 5 l2 else V.zero) = X := ⟨_, rfl⟩; rw [hX] at hv HX; obtain ⟨E, hE⟩ : ∃ E : Int, (if rightB (V.kd 5 l2) = true then 0 else 2) = E := ⟨_, rfl⟩; rw [hE]; clear hX hE; obtain ⟨hbv, A2, cap2, rfl, hc2, hLA2⟩ := hv.eq; have HV6 := Lib.hid hv; clear hv hLA2; have f0 := cellB hb6.out (cellB hb2 e0); have f1 := cellB hb6.out (cellB hb2 e1); have f2 := cellB hb6.out (cellB hb2 e2); have f3 := cellB hb6.out (cellB hb2 e3); have fz := free4 (blockB hb6.out (blockB hb2 HB0.out)); clear e0 e1 e2 e3))
    have hs2 := hb2.size
    have hs5 := hb5.out.size
    refine bodyPost_ret (v := .tuple #[.agg #[.int .i64 X.kind, .int .i64 X.num, .string X.text, .slice A2 X.items.length cap2], .int .i64 E]) (by simp [results, Tryz.results58, go_sem, f0, f1, f2, f3]) rfl ⟨_, X, _, rfl, ?_, ?_, HX.out⟩
    · have hn : ∀ b, b < w5.heap.size → ¬ (fun b => w5.heap.size ≤ b) b := fun b h (h' : w5.heap.size ≤ b) => by omega
      refine (IsV.keep (S' := fun b => w5.heap.size ≤ b) ?_ HV6.out).keep (Keeps.weak fun b (h : w5.heap.size ≤ b) => show w.heap.size ≤ b by omega)
      repeat refine Keeps.set_after ?_ (hn _ (by simp; omega)) _
      exact Keeps.refl _ _
    · repeat refine Below.setCell ?_ (by simp) _
      exact below_then hB1 hB1.size (below_then hb2 hb2.size hb6.out)
  · have h1 : (listE l != 0) = true := by simpa using h0
    have HV := Lib.hid HV
    have hnl : 0 < l.length := by
      rcases l with _ | ⟨x, l⟩
      · exact absurd rfl h0
      · simp
    have HnOk : Hid (¬ SetOk l) := Lib.hid fun h => h0 ((listOk_iff l).1 h.1)
    clear h0
    go_enter Tryz.func58, Tryz.ntmps58
    go_wp2_with (go_at_call 85; refine HV.out.mono ?_; rintro e w2 ⟨rfl, hb2⟩; have f0 := cellB hb2 e0; have f1 := cellB hb2 e1; have f2 := cellB hb2 e2; have f3 := cellB hb2 e3; have fz := free4 (blockB hb2 HB0.out); clear e0 e1 e2 e3)
    refine bodyPost_ret (v := .tuple #[.agg #[.int .i64 0, .int .i64 0, .string ⟨#[]⟩, .slice none 0 0], .int .i64 (listE l)]) (by simp [results, Tryz.results58, go_sem, f0, f1, f2, f3]) rfl ⟨_, V.zero, _, rfl, zero_is _ _, ?_, .inr ⟨HnOk.out, hnl⟩⟩
    repeat refine Below.setCell ?_ (by simp) _
    exact below_then hB1 hB1.size hb2
end Go.Proofs.YtoiipdknamgcmaaGreatDoor
