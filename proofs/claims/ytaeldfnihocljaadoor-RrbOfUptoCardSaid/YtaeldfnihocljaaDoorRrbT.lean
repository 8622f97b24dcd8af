/- The law RrbOf. -/
import Derived.Test.YtaeldfnihocljaaDoorRrbS
import Derived.Test.YtaeldfnihocljaaDoorValH
set_option linter.unusedVariables false
set_option linter.unusedSimpArgs false
namespace Go.Proofs.YtaeldfnihocljaaDoor
open Go.RowKit
attribute [local go_sem] lt_succ_of

set_option maxRecDepth 100000 in
set_option maxHeartbeats 8000000 in
theorem rrbof_bad (l : List V) (i : Int) (vl : Value) (w : World) (S : Nat → Prop) (hl : IsS w S l vl) (hT : Lib.Utf8Tabs 0 1 w) (h0 : listE l ≠ 0) :
    Calls Tryd.prog 3 #[vl, .int .i64 i] w fun e w' => e = .returned (.bool true) ∧ Below w.heap.size w w' := by
  have HOF := Lib.hid (of_calls l vl w S hl hT)
  have HL := Lib.hid hl
  have HT := Lib.hid hT
  have h1 : (listE l != 0) = true := by simpa using h0
  have h2 : (listE l == 0) = false := by simpa using h0
  have h3 : (listE l != listE l) = false := by simp
  have HN := Lib.hid h0
  obtain ⟨E, hE⟩ : ∃ E, listE l = E := ⟨_, rfl⟩
  have HE := Lib.hid hE
  rw [hE] at HOF HN h1 h2 h0 h3
  clear hl hT hE
  go_enter Tryd.func3, Tryd.ntmps3
  go_wp2_with (first | (go_at_call 11; refine HOF.out.mono ?_; rintro e w2 ⟨p, rfl, hp, hb2⟩; obtain rfl := (hp.resolve_right (fun h => HN.out h.1)).2; have HLS := Lib.hid (listed_calls l vl w2 S (HL.out.below hb2)); rw [HE.out] at HLS; clear hp) | (go_at_call 12; refine HLS.out.mono ?_; rintro e w3 ⟨rfl, hb3⟩; have hb4 := below_then hb2 hb2.size hb3) | (go_at_call 13; refine (speaks_calls _ (tabs_below HT.out hb4)).mono ?_; rintro e w5 ⟨rfl, hb5⟩; have hb6 := below_then hb4 hb4.size hb5))
  go_ret
  exact ⟨rfl, hb6⟩
end Go.Proofs.YtaeldfnihocljaaDoor
