/- The law of the nil transient. -/
import Derived.Test.YtaeldfnihocljaaDoorCTvS

set_option linter.unusedVariables false
set_option linter.unusedSimpArgs false
namespace Go.Proofs.YtaeldfnihocljaaDoor
open Go.RowKit
attribute [local go_sem] lt_succ_of

theorem shutz_nth (p : Value) (i : Int) (w : World) (hs : ∀ w2, w.heap.size ≤ w2.heap.size → Below w.heap.size w w2 → Shut w2 p) : Calls Tryd.prog 38 #[p, .int .i64 i] w fun e w' => e = .returned (.tuple #[.agg #[.int .i64 0, .int .i64 0, .string ⟨#[]⟩, .slice none 0 0], .int .i64 7]) ∧ Below w.heap.size w w' := by
  obtain ⟨w1, hw1, hB1, hsz, hb0⟩ := box0 w 31 (.int .i64 0) (.int .i64 0) (.string ⟨#[]⟩) (.slice none 0 0)
  obtain ⟨e0, e1, e2, e3⟩ := block4 hb0
  have fz := free4 hb0
  have HS := Lib.hid (hs w1 hB1.size hB1)
  clear hs hb0
  unfold Shut at HS
  go_enter Tryd.func38, Tryd.ntmps38
  go_wp2_with (go_at_call 59; refine HS.out.mono ?_; rintro e w2 ⟨rfl, rfl⟩)
  refine bodyPost_ret (v := .tuple #[.agg #[.int .i64 0, .int .i64 0, .string ⟨#[]⟩, .slice none 0 0], .int .i64 7]) (by simp [results, Tryd.results38, go_sem, e0, e1, e2, e3]) rfl ⟨rfl, ?_⟩
  repeat refine Below.setCell ?_ (by simp) _
  exact hB1
theorem shutz_pop (p : Value) (w : World) (hs : ∀ w2, w.heap.size ≤ w2.heap.size → Below w.heap.size w w2 → Shut w2 p) : Calls Tryd.prog 39 #[p] w fun e w' => e = .returned (.tuple #[.agg #[.int .i64 0, .int .i64 0, .string ⟨#[]⟩, .slice none 0 0], .int .i64 7]) ∧ Below w.heap.size w w' := by
  obtain ⟨w1, hw1, hB1, hsz, hb0⟩ := box0 w 31 (.int .i64 0) (.int .i64 0) (.string ⟨#[]⟩) (.slice none 0 0)
  obtain ⟨e0, e1, e2, e3⟩ := block4 hb0
  have fz := free4 hb0
  have HS := Lib.hid (hs w1 hB1.size hB1)
  clear hs hb0
  unfold Shut at HS
  go_enter Tryd.func39, Tryd.ntmps39
  go_wp2_with (go_at_call 59; refine HS.out.mono ?_; rintro e w2 ⟨rfl, rfl⟩)
  refine bodyPost_ret (v := .tuple #[.agg #[.int .i64 0, .int .i64 0, .string ⟨#[]⟩, .slice none 0 0], .int .i64 7]) (by simp [results, Tryd.results39, go_sem, e0, e1, e2, e3]) rfl ⟨rfl, ?_⟩
  repeat refine Below.setCell ?_ (by simp) _
  exact hB1
set_option maxRecDepth 100000 in
set_option maxHeartbeats 8000000 in
theorem tvecnil_calls (s : St) (A : Option Addr) (c : Nat) (w : World) (S : Nat → Prop) (hy : IsV w S s.val (.agg #[.int .i64 s.val.kind, .int .i64 s.val.num, .string s.val.text, .slice A s.val.items.length c])) (hT : Lib.Utf8Tabs 0 1 w) :
    Calls Tryd.prog 10 #[.agg #[.int .i64 s.kind, .int .i64 s.at_, .int .i64 s.val.kind, .int .i64 s.val.num, .string s.val.text, .slice A s.val.items.length c]] w fun e w' => e = .returned (.bool true) ∧ Below w.heap.size w w' := by
  obtain ⟨w1, hw1, hB1, hsz, hb0⟩ := box6 w 65 (.int .i64 s.kind) (.int .i64 s.at_) (.int .i64 s.val.kind) (.int .i64 s.val.num) (.string s.val.text) (.slice A s.val.items.length c)
  obtain ⟨e0, e1, e2, e3, e4, e5⟩ := block6 hb0
  have HB0 := Lib.hid hb0
  have HT := Lib.hid hT
  have HY := Lib.hid (hy.below hB1)
  have h2w := tabs_size hT
  clear hy hT hb0
  go_enter Tryd.func10, Tryd.ntmps10
  go_wp2_with (first
    | (go_at_call 38; refine (shutz_nth _ _ _ (fun w2 _ _ => shut_nil w2)).mono ?_; rintro e w2 ⟨rfl, hb2⟩; have hb3 := hb2.alloc hb2.size (.cells #[.int .i64 0, .int .i64 0, .string ⟨#[]⟩, .slice none 0 0] 31))
    | (go_at_call 39; refine (shutz_pop _ _ (fun w3 _ _ => shut_nil w3)).mono ?_; rintro e w4 ⟨rfl, hb4'⟩; have hb4 := below_then hb3 hb3.size hb4'; have hb5 := hb4.alloc hb4.size (.cells #[.int .i64 0, .int .i64 0, .string ⟨#[]⟩, .slice none 0 0] 31))
    | (go_at_call 40; refine (shut_len _ _ (shut_nil _)).mono ?_; rintro e w6 ⟨rfl, hb6'⟩; have hb6 := below_then hb5 hb5.size hb6')
    | (go_at_call 36; refine (shut_seal _ _ (shut_nil _)).mono ?_; rintro e w7 ⟨rfl, hb7'⟩; have hb7 := below_then hb6 hb6.size hb7')
    | (go_at_call 34; refine (begin_nil_calls _ (fun _ => False) (fun _ h => h.elim) (by have := hb7.size; omega)).mono ?_; rintro e w8 ⟨x, rfl, hx, hxo, hxa, _, hb8'⟩; have hb8 := below_then hb7 hb7.size hb8'; have hL := tlen_calls w8 _ _ x hx; simp only [hxo, hxa, if_true] at hL; have HL := Lib.hid hL; clear hx hxo hxa hL; obtain ⟨g0, g1, g2, g3, g4, g5⟩ := block6 (blockB hb8 HB0.out)))
  go_wp2_with (first
    | (go_at_call 40; refine HL.out.mono ?_; rintro e w9 ⟨rfl, hb9'⟩; have hb9 := below_then hb8 hb8.size hb9'; obtain ⟨f0, f1, f2, f3, f4, f5⟩ := block6 (blockB hb9 HB0.out))
    | (go_at_call 41; refine (shut_set _ _ _ _ _ _ (HY.out.below hb9) (fun w3 _ _ => shut_nil w3)).mono ?_; rintro e w10 ⟨rfl, hb10'⟩; have hb10 := below_then hb9 hb9.size hb10'; obtain ⟨p0, p1, p2, p3, p4, p5⟩ := block6 (blockB hb10 HB0.out))
    | (go_at_call 37; refine (shut_push _ _ _ _ _ (HY.out.below hb10) (fun w3 _ _ => shut_nil w3)).mono ?_; rintro e w11 ⟨rfl, hb11'⟩; have hb11 := below_then hb10 hb10.size hb11'; have hb12 := below_then hB1 hB1.size hb11)
    | (go_at_call 33; refine (speaks13_calls _ (tabs_below HT.out hb12)).mono ?_; rintro e w13 ⟨rfl, hb13'⟩; have hb13 := below_then hb12 hb12.size hb13'))
  go_ret
  exact ⟨rfl, hb13⟩
end Go.Proofs.YtaeldfnihocljaaDoor
