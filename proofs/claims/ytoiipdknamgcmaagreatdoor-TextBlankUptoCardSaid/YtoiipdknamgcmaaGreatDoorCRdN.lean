/- The reader's maps, where nothing is told of value.Map. -/
import Derived.Test.YtoiipdknamgcmaaGreatDoorCRdM

set_option linter.unusedVariables false
set_option linter.unusedSimpArgs false
namespace Go.Proofs.YtoiipdknamgcmaaGreatDoor
open Go.RowKit Go.Shelf
attribute [local go_sem] lt_succ_of

def pairsR (m : Bool) (n d f k : Nat) (l : Bs) : R (V × Nat × Bs) := (itemsF m n 125 (d + 1) f l).next fun p => if p.1.length % 2 = 1 then .bad 25 p.2.2.length else (mapR m p.1 k).next fun v => .ok (v, p.2.1, p.2.2.tail)
def PairsAt (m : Bool) (n : Nat) : Prop := ∀ (d f p rb : Nat) (s : ByteArray) (w : World), Rdr w rb s p f → p + 1 ≤ s.size → d ≤ 16 → pairsR m n d f (s.size - p) (sfx s (p + 1)) ≠ .out →
  Calls Tryz.prog 42 #[.pointer (some ⟨rb, 0, none⟩), .int .i64 d] w (PostM (· = rb) s w (pairsR m n d f (s.size - p) (sfx s (p + 1))) (FormG rb s w.heap.size))
theorem tmod_two (n : Nat) : ((n : Int).tmod 2) = ((n % 2 : Nat) : Int) := by rw [Int.tmod_eq_emod_of_nonneg (by omega)]; omega
set_option maxRecDepth 100000 in
set_option maxHeartbeats 8000000 in
theorem pairs_none (n : Nat) (ih : ItemsAt false n) : PairsAt false n := by
  intro d f p rb s w hr hp hd hout0
  have hout := R.next_in hout0
  have hb := byteAt_eq s
  have hs16 := hr.len
  have hrbw : rb < w.heap.size := hr.at'.lt
  obtain ⟨w1, hw1, hB1, hsz1, hb1⟩ := box1 w (.int .i64 0) (.int .i64 0) (.string ⟨#[]⟩) (.slice none 0 0) 24
  have hr1 := hr.keep hB1
  obtain ⟨a0, a1, a2, g1, g2⟩ := hr1.at'.cells
  have HR1 := Lib.hid hr1
  have HIT : Hid (∀ W, Rdr W rb s (p + 1) f → Calls Tryz.prog 41 #[.pointer (some ⟨rb, 0, none⟩), .int .u8 125, .int .i64 ((d : Int) + 1)] W (PostM (· = rb) s W (itemsF false n 125 (d + 1) f (sfx s (p + 1))) (ItemsG rb s W.heap.size))) := Lib.hid fun W hW => ih 125 (d + 1) f (p + 1) rb s W hW (by omega) hout
  have hd1 : IntKind.i64.wrap ((d : Int) + 1) = (d : Int) + 1 := IntWalk.i64_in _ (by omega)
  have HP2 := Lib.hid hp
  unfold pairsR at hout0 ⊢
  cases hA : itemsF false n 125 (d + 1) f (sfx s (p + 1)) with
  | out => exact absurd hA hout
  | bad er kk =>
    rw [hA] at HIT
    rw [R.next_bad]
    clear hout hA
    go_enter Tryz.func42, Tryz.ntmps42
    go_wp2_with (go_at_call 41; refine (HIT.out _ (HR1.out.moved 0 (p + 1) HP2.out)).mono ?_; rintro e w3 ⟨rfl, hb3⟩)
    exact ⟨rfl, rfl, ((But.of hB1).trans ((but_moved w1 rb 0 _).trans hb3))⟩
  | ok a =>
    have hcnt := itemsF_count false n 125 (d + 1) f _ a hA
    have hfs := itemsF_forms false n 125 (d + 1) f _ a hA hr.forms
    rw [sfx_length] at hcnt
    rw [hA] at HIT
    rw [hA, R.next_ok] at hout0
    rw [R.next_ok]
    by_cases hodd : a.1.length % 2 = 1
    · rw [if_pos hodd]
      have hm : ((a.1.length : Int).tmod 2 == 1) = true := by rw [tmod_two, hodd]; rfl
      have hm2 : (a.1.length : Int).tmod 2 = 1 := by rw [tmod_two, hodd]; rfl
      have hm3 : (a.1.length : Int) % 2 = 1 := by omega
      unfold PostM
      dsimp only
      clear hout hA hout0
      obtain ⟨LL, hLL⟩ : ∃ LL, a.1.length = LL := ⟨_, rfl⟩
      go_enter Tryz.func42, Tryz.ntmps42
      go_wp2_with (first
        | (go_at_call 41; refine (HIT.out _ (HR1.out.moved 0 (p + 1) HP2.out)).mono ?_; rintro e w3 ⟨⟨v3, rfl, hv3, q3, hq3, hR3, hs3⟩, hb3⟩; have hl3 := congrArg List.length hs3; rw [sfx_length] at hl3; have hb3' := (but_moved w1 rb 0 _).trans hb3; have hr3 := (HR1.out.but hb3' hR3 hq3 hfs); obtain ⟨c0, c1, c2, f1, f2⟩ := hr3.at'.cells; obtain ⟨A3, ca3, rfl, hca3, hl32, hA3⟩ := hv3; have HB3 := Lib.hid ((But.of hB1).trans hb3'); have HQ3 := Lib.hid (show s.size - a.2.2.length = q3 by omega); clear hb3 hb3' hr3 hA3 hR3)
        | (go_at_call 25; refine (fail_calls _ _ _ _).mono ?_; rintro e w8 ⟨rfl, rfl⟩))
      rw [HQ3.out]
      exact ⟨rfl, rfl, HB3.out⟩
    · exfalso
      apply hout0
      rw [if_neg hodd]
      rfl
end Go.Proofs.YtoiipdknamgcmaaGreatDoor
