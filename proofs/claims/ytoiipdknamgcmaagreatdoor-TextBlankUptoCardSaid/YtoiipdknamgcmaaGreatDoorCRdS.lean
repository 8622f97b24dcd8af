/- A whole text. Read. Read, its contract. -/
import Derived.StillTailTactics
import Derived.Test.YtoiipdknamgcmaaGreatDoorCRdP
/- A whole text. -/
set_option linter.unusedVariables false
set_option linter.unusedSimpArgs false
namespace Go.Proofs.YtoiipdknamgcmaaGreatDoor
open Go.RowKit Go.Shelf
attribute [local go_sem] lt_succ_of

/-- What Read's function leaves: the value, in its box. -/
def WholeG (vb N : Nat) (v : V) (w' : World) : Prop := ∃ A c, w'.heap[vb]? = some (.cells #[.int .i64 v.kind, .int .i64 v.num, .string v.text, .slice A v.items.length c] 24 (0, 0)) ∧ IsV w' (fun b => N ≤ b) v (.agg #[.int .i64 v.kind, .int .i64 v.num, .string v.text, .slice A v.items.length c])
def WholeP (s : ByteArray) (rb vb : Nat) (w : World) (r : R V) (e : Ending) (w' : World) : Prop := match r with
  | .out => False
  | .bad n k => e = .panicked [{ v := .iface 73 (.agg #[.int .i64 n, .int .i64 (s.size - k : Nat)]), recovered := false }] ∧ But (fun b => b = rb ∨ b = vb) w w'
  | .ok v => (∃ x, e = .returned x) ∧ But (fun b => b = rb ∨ b = vb) w w' ∧ WholeG vb w.heap.size v w'
theorem But.two {w w' : World} {rb vb : Nat} (h : But (· = rb) w w') : But (fun b => b = rb ∨ b = vb) w w' := h.mono fun b _ e => .inl e
theorem store_four {w3 : World} {vb : Nat} {t : TypeId} {d0 d1 d2 d3 : Value} (c0 c1 c2 c3 : Value) (h : w3.heap[vb]? = some (.cells #[d0, d1, d2, d3] t (0, 0))) : ((((w3.setCell ⟨vb, 0, none⟩ c0).setCell ⟨vb, 1, none⟩ c1).setCell ⟨vb, 2, none⟩ c2).setCell ⟨vb, 3, none⟩ c3).heap[vb]? = some (.cells #[c0, c1, c2, c3] t (0, 0)) :=
  blockset (blockset (blockset (blockset h 0 c0) 1 c1) 2 c2) 3 c3
theorem but_four (w3 : World) (vb : Nat) (c0 c1 c2 c3 : Value) : But (fun b => b = vb) w3 ((((w3.setCell ⟨vb, 0, none⟩ c0).setCell ⟨vb, 1, none⟩ c1).setCell ⟨vb, 2, none⟩ c2).setCell ⟨vb, 3, none⟩ c3) :=
  But.set (M := fun b => b = vb) (But.set (M := fun b => b = vb) (But.set (M := fun b => b = vb) (But.set (M := fun b => b = vb) (But.of (Below.refl _ _)) (.inr rfl) _) (.inr rfl) _) (.inr rfl) _) (.inr rfl) _
theorem keep_vb {w W w3 w4 : World} {vb : Nat} (h : But (fun b => b = vb) w3 w4) (hn : w.heap.size ≤ W.heap.size) (hl : vb < w.heap.size) : Keeps w3 (fun b => W.heap.size ≤ b) w4 (fun b => W.heap.size ≤ b) :=
  h.keeps fun b h1 (h2 : b = vb) => by have h3 : W.heap.size ≤ b := h1; omega
theorem rdr_vb {w3 w4 : World} {rb vb : Nat} {s : ByteArray} {p f : Nat} (h : Rdr w3 rb s p f) (hb : But (fun b => b = vb) w3 w4) (hn : rb ≠ vb) (h8 : 8 ≤ vb) : Rdr w4 rb s p f :=
  ⟨(hb.block rb h.at'.lt hn).trans h.at', h.place, h.len, h.tabs.later (hb.below (n := 8) h.tabs.big (by rintro k rfl; exact h8)) (Nat.le_refl _), h.big, h.forms⟩
set_option maxRecDepth 100000 in
set_option maxHeartbeats 8000000 in
theorem read1_calls (m : Bool) (n : Nat) (hA : AllAt m n) (rb rv vb sb : Nat) (s : ByteArray) (w : World) (hr : Rdr w rb s 0 0) (hrv : w.heap[rv]? = some (.cells #[.pointer (some ⟨rb, 0, none⟩)] 50 (0, 0))) (hsb : w.heap[sb]? = some (.cells #[.string s] 9 (0, 0))) (hvb : w.heap[vb]? = some (.cells #[.int .i64 0, .int .i64 0, .string ⟨#[]⟩, .slice none 0 0] 24 (0, 0)))
    (h8 : 8 ≤ vb) (n1 : rb ≠ rv) (n2 : rb ≠ vb) (n3 : rb ≠ sb) (n4 : vb ≠ rv) (n5 : vb ≠ sb) (hout : wholeF m n (sfx s 0) ≠ .out) :
    Calls Tryz.prog 22 #[.pointer (some ⟨rv, 0, none⟩), .pointer (some ⟨vb, 0, none⟩), .pointer (some ⟨sb, 0, none⟩)] w (WholeP s rb vb w (wholeF m n (sfx s 0))) := by
  have hs16 := hr.len
  have hlrv : rv < w.heap.size := (Array.getElem?_eq_some_iff.1 hrv).1
  have hlsb : sb < w.heap.size := (Array.getElem?_eq_some_iff.1 hsb).1
  have hlvb : vb < w.heap.size := (Array.getElem?_eq_some_iff.1 hvb).1
  obtain ⟨e0, f0⟩ := box_cell hrv
  obtain ⟨e1, f1⟩ := box_cell hsb
  have HR := Lib.hid hr
  have hAn := hA n (Nat.le_refl _)
  unfold wholeF at hout ⊢
  have hout1 := R.next_in hout
  have HS1 : Hid (Calls Tryz.prog 23 #[.pointer (some ⟨rb, 0, none⟩), .int .i64 0] w (PostM (· = rb) s w (skipF m n 0 0 (sfx s 0)) (SkipG rb s))) := Lib.hid (hAn.1 0 0 0 rb s w hr (by decide) hout1)
  have HK : Hid (∀ W, But (· = rb) w W → W.heap[rv]? = some (.cells #[.pointer (some ⟨rb, 0, none⟩)] 50 (0, 0)) ∧ W.heap[sb]? = some (.cells #[.string s] 9 (0, 0)) ∧ W.heap[vb]? = some (.cells #[.int .i64 0, .int .i64 0, .string ⟨#[]⟩, .slice none 0 0] 24 (0, 0))) := Lib.hid fun W h => ⟨(h.block rv hlrv (Ne.symm n1)).trans hrv, (h.block sb hlsb (Ne.symm n3)).trans hsb, (h.block vb hlvb (Ne.symm n2)).trans hvb⟩
  cases hA1 : skipF m n 0 0 (sfx s 0) with
  | out => exact absurd hA1 hout1
  | bad er kk =>
    rw [hA1] at HS1
    rw [R.next_bad]
    clear hout hout1 hA1 hAn hA
    go_enter Tryz.func22, Tryz.ntmps22
    go_wp2_with (go_at_call 23; refine HS1.out.mono ?_; rintro e w2 ⟨rfl, hb2⟩)
    exact ⟨rfl, rfl, hb2.two⟩
  | ok a =>
    have ha1 := skipF_forms m n 0 0 _ a hA1 (by decide)
    rw [hA1] at HS1
    rw [hA1, R.next_ok] at hout
    rw [R.next_ok]
    have hout2 := R.next_in hout
    have HFO : Hid (∀ W q, Rdr W rb s q a.1 → sfx s q = a.2 → Calls Tryz.prog 24 #[.pointer (some ⟨rb, 0, none⟩), .int .i64 0] W (PostM (· = rb) s W (formF m n 0 a.1 a.2) (FormG rb s W.heap.size))) := Lib.hid fun W q hW hs3 => by
      rw [← hs3]
      exact hAn.2.1 0 a.1 q rb s W hW (by decide) (by rw [hs3]; exact hout2)
    cases hA2 : formF m n 0 a.1 a.2 with
    | out => exact absurd hA2 hout2
    | bad er kk =>
      rw [hA2] at HFO
      rw [R.next_bad]
      clear hout hout1 hout2 hA1 hA2 hAn hA
      go_enter Tryz.func22, Tryz.ntmps22
      go_wp2_with (first | (go_at_call 23; refine HS1.out.mono ?_; rintro e w2 ⟨⟨v2, rfl, q2, hq2, hR2, hs2⟩, hb2⟩; have HR2 := Lib.hid (HR.out.but hb2 hR2 hq2 ha1); have HS2 := Lib.hid hs2; have HB2 := Lib.hid hb2; obtain ⟨r1, r2, r3⟩ := HK.out _ hb2; obtain ⟨g0, h0⟩ := box_cell r1; obtain ⟨g1, h1⟩ := box_cell r2; obtain ⟨v0, v1, vv2, v3⟩ := block4 r3; have z0 := free4 r3 0; have z1 := free4 r3 1; have z2 := free4 r3 2; have z3 := free4 r3 3; clear hb2 hR2 hs2 HS1) | (go_at_call 24; refine (HFO.out _ _ (by first | exact HR2.out | exact HR2.out.keep (belowN _ _ _)) HS2.out).mono ?_; rintro e w3 ⟨rfl, hb3⟩; have HB3 := Lib.hid (((show But (· = rb) w _ by first | exact HB2.out | exact HB2.out.drewN _)).trans hb3)))
      exact ⟨rfl, rfl, HB3.out.two⟩
    | ok b =>
      have hfs := formF_forms m n 0 a.1 a.2 b hA2 ha1
      rw [hA2] at HFO
      rw [hA2, R.next_ok] at hout
      rw [R.next_ok]
      have hout3 := R.next_in hout
      have HS3 : Hid (∀ W q, Rdr W rb s q b.2.1 → sfx s q = b.2.2 → Calls Tryz.prog 23 #[.pointer (some ⟨rb, 0, none⟩), .int .i64 0] W (PostM (· = rb) s W (skipF m n 0 b.2.1 b.2.2) (SkipG rb s))) := Lib.hid fun W q hW hs3 => by
        rw [← hs3]
        exact hAn.1 0 b.2.1 q rb s W hW (by decide) (by rw [hs3]; exact hout3)
      clear hout1 hout2 hA1 hA2 hAn hA
      cases hA3 : skipF m n 0 b.2.1 b.2.2 with
      | out => exact absurd hA3 hout3
      | bad er kk =>
        rw [hA3] at HS3
        rw [R.next_bad]
        clear hout3 hA3
        go_enter Tryz.func22, Tryz.ntmps22
        go_wp2_with (first | (go_at_call 23; refine HS1.out.mono ?_; rintro e w2 ⟨⟨v2, rfl, q2, hq2, hR2, hs2⟩, hb2⟩; have HR2 := Lib.hid (HR.out.but hb2 hR2 hq2 ha1); have HS2 := Lib.hid hs2; have HB2 := Lib.hid hb2; obtain ⟨r1, r2, r3⟩ := HK.out _ hb2; obtain ⟨g0, h0⟩ := box_cell r1; obtain ⟨g1, h1⟩ := box_cell r2; obtain ⟨v0, v1, vv2, v3⟩ := block4 r3; have z0 := free4 r3 0; have z1 := free4 r3 1; have z2 := free4 r3 2; have z3 := free4 r3 3; clear hb2 hR2 hs2 HS1) | (go_at_call 24; refine (HFO.out _ _ (by first | exact HR2.out | exact HR2.out.keep (belowN _ _ _)) HS2.out).mono ?_; rintro e w3 ⟨⟨v3, rfl, hv3, q3, hq3, hR3, hs3⟩, hb3⟩; have hb4 := ((show But (· = rb) w _ by first | exact HB2.out | exact HB2.out.drewN _)).trans hb3; have HB3 := Lib.hid hb4; have HR3 := Lib.hid ((show Rdr _ rb s q2 a.1 by first | exact HR2.out | exact HR2.out.keep (belowN _ _ _)).but hb3 hR3 hq3 hfs); have HS3s := Lib.hid hs3; obtain ⟨r1, r2, r3⟩ := HK.out _ hb4; have HK3 := Lib.hid r3; obtain ⟨g0, h0⟩ := box_cell r1; obtain ⟨g1, h1⟩ := box_cell r2; obtain ⟨v0, v1, vv2, v3'⟩ := block4 r3; have z0 := free4 r3 0; have z1 := free4 r3 1; have z2 := free4 r3 2; have z3 := free4 r3 3; have HN3 := Lib.hid (ws_of hb3 (by first | exact HB2.out | exact HB2.out.drewN _)); have HV3 := Lib.hid hv3; obtain ⟨hbd3, A3, ca3, rfl, hca3, hA3⟩ := hv3.eq; clear hb3 hR3 hs3 hv3 hA3 r1 r2 r3 hb4) | (go_at_call 23; have hv4 := store_four (.int .i64 b.1.kind) (.int .i64 b.1.num) (.string b.1.text) (.slice A3 b.1.items.length ca3) HK3.out; have hb34 := but_four w3 vb (.int .i64 b.1.kind) (.int .i64 b.1.num) (.string b.1.text) (.slice A3 b.1.items.length ca3); refine (HS3.out _ q3 (rdr_vb HR3.out hb34 n2 h8) HS3s.out).mono ?_; rintro e w5 ⟨rfl, hb5⟩; have HB5 := Lib.hid (HB3.out.two.trans ((hb34.mono (M' := fun b => b = rb ∨ b = vb) fun b _ e => .inr e).trans hb5.two)); clear hv4 hb34 hb5))
        exact ⟨rfl, rfl, HB5.out⟩
      | ok c =>
        rw [hA3] at HS3
        rw [R.next_ok]
        clear hout3 hA3
        by_cases hend : c.2 = []
        · rw [if_pos hend]
          have HEND := Lib.hid hend
          clear hend
          go_enter Tryz.func22, Tryz.ntmps22
          go_wp2_with (first | (go_at_call 23; refine HS1.out.mono ?_; rintro e w2 ⟨⟨v2, rfl, q2, hq2, hR2, hs2⟩, hb2⟩; have HR2 := Lib.hid (HR.out.but hb2 hR2 hq2 ha1); have HS2 := Lib.hid hs2; have HB2 := Lib.hid hb2; obtain ⟨r1, r2, r3⟩ := HK.out _ hb2; obtain ⟨g0, h0⟩ := box_cell r1; obtain ⟨g1, h1⟩ := box_cell r2; obtain ⟨v0, v1, vv2, v3⟩ := block4 r3; have z0 := free4 r3 0; have z1 := free4 r3 1; have z2 := free4 r3 2; have z3 := free4 r3 3; clear hb2 hR2 hs2 HS1) | (go_at_call 24; refine (HFO.out _ _ (by first | exact HR2.out | exact HR2.out.keep (belowN _ _ _)) HS2.out).mono ?_; rintro e w3 ⟨⟨v3, rfl, hv3, q3, hq3, hR3, hs3⟩, hb3⟩; have hb4 := ((show But (· = rb) w _ by first | exact HB2.out | exact HB2.out.drewN _)).trans hb3; have HB3 := Lib.hid hb4; have HR3 := Lib.hid ((show Rdr _ rb s q2 a.1 by first | exact HR2.out | exact HR2.out.keep (belowN _ _ _)).but hb3 hR3 hq3 hfs); have HS3s := Lib.hid hs3; obtain ⟨r1, r2, r3⟩ := HK.out _ hb4; have HK3 := Lib.hid r3; obtain ⟨g0, h0⟩ := box_cell r1; obtain ⟨g1, h1⟩ := box_cell r2; obtain ⟨v0, v1, vv2, v3'⟩ := block4 r3; have z0 := free4 r3 0; have z1 := free4 r3 1; have z2 := free4 r3 2; have z3 := free4 r3 3; have HN3 := Lib.hid (ws_of hb3 (by first | exact HB2.out | exact HB2.out.drewN _)); have HV3 := Lib.hid hv3; obtain ⟨hbd3, A3, ca3, rfl, hca3, hA3⟩ := hv3.eq; clear hb3 hR3 hs3 hv3 hA3 r1 r2 r3 hb4) | (go_at_call 23; have hv4 := store_four (.int .i64 b.1.kind) (.int .i64 b.1.num) (.string b.1.text) (.slice A3 b.1.items.length ca3) HK3.out; have hb34 := but_four w3 vb (.int .i64 b.1.kind) (.int .i64 b.1.num) (.string b.1.text) (.slice A3 b.1.items.length ca3); refine (HS3.out _ q3 (rdr_vb HR3.out hb34 n2 h8) HS3s.out).mono ?_; rintro e w5 ⟨⟨v5, rfl, q5, hq5, hR5, hs5⟩, hb5⟩; have hbt := (HB3.out.two.trans ((hb34.mono (M' := fun b => b = rb ∨ b = vb) fun b _ e => .inr e).trans hb5.two)); have HB5 := Lib.hid hbt; have HV5 := Lib.hid ((hb5.block vb (by have := hb34.size; have := HB3.out.size; omega) (Ne.symm n2)).trans hv4); have HX5 := Lib.hid ((HV3.out.keep (keep_vb hb34 HN3.out hlvb)).keep (keep_vb hb5 HN3.out HR.out.at'.lt)); obtain ⟨x0, x1, x2, y1, y2⟩ := hR5.cells; have hs5' := Lib.hid hs5; obtain ⟨p0, p1⟩ := box_cell ((hbt.block rv hlrv (fun h => h.elim (fun e => n1 e.symm) (fun e => n4 e.symm))).trans hrv); obtain ⟨p2, p3⟩ := box_cell ((hbt.block sb hlsb (fun h => h.elim (fun e => n3 e.symm) (fun e => n5 e.symm))).trans hsb); have hl5 := congrArg List.length hs5; rw [sfx_length] at hl5; have hj : ¬ (q5 : Int) < (s.size : Int) := (by have h0 : c.2.length = 0 := (by rw [HEND.out]; rfl); omega); have hjn : ¬ q5 < s.size := (by omega); have hjd : decide ((q5 : Int) < (s.size : Int)) = false := decide_eq_false hj; clear hv4 hb34 hb5 hbt hR5 hs5 hl5))
          go_quiet (fail)
          go_wp2_with fail
          go_end0
          exact ⟨⟨_, rfl⟩, HB5.out.drewN _, A3, ca3, HV5.out, HX5.out.keep (Keeps.below_to (belowN _ _ _) fun b _ h => Nat.le_trans HN3.out h)⟩
        · rw [if_neg hend]
          have HEND := Lib.hid (show 0 < c.2.length from List.length_pos_iff.2 hend)
          clear hend
          unfold WholeP
          dsimp only
          go_enter Tryz.func22, Tryz.ntmps22
          go_wp2_with (first | (go_at_call 23; refine HS1.out.mono ?_; rintro e w2 ⟨⟨v2, rfl, q2, hq2, hR2, hs2⟩, hb2⟩; have HR2 := Lib.hid (HR.out.but hb2 hR2 hq2 ha1); have HS2 := Lib.hid hs2; have HB2 := Lib.hid hb2; obtain ⟨r1, r2, r3⟩ := HK.out _ hb2; obtain ⟨g0, h0⟩ := box_cell r1; obtain ⟨g1, h1⟩ := box_cell r2; obtain ⟨v0, v1, vv2, v3⟩ := block4 r3; have z0 := free4 r3 0; have z1 := free4 r3 1; have z2 := free4 r3 2; have z3 := free4 r3 3; clear hb2 hR2 hs2 HS1) | (go_at_call 24; refine (HFO.out _ _ (by first | exact HR2.out | exact HR2.out.keep (belowN _ _ _)) HS2.out).mono ?_; rintro e w3 ⟨⟨v3, rfl, hv3, q3, hq3, hR3, hs3⟩, hb3⟩; have hb4 := ((show But (· = rb) w _ by first | exact HB2.out | exact HB2.out.drewN _)).trans hb3; have HB3 := Lib.hid hb4; have HR3 := Lib.hid ((show Rdr _ rb s q2 a.1 by first | exact HR2.out | exact HR2.out.keep (belowN _ _ _)).but hb3 hR3 hq3 hfs); have HS3s := Lib.hid hs3; obtain ⟨r1, r2, r3⟩ := HK.out _ hb4; have HK3 := Lib.hid r3; obtain ⟨g0, h0⟩ := box_cell r1; obtain ⟨g1, h1⟩ := box_cell r2; obtain ⟨v0, v1, vv2, v3'⟩ := block4 r3; have z0 := free4 r3 0; have z1 := free4 r3 1; have z2 := free4 r3 2; have z3 := free4 r3 3; have HN3 := Lib.hid (ws_of hb3 (by first | exact HB2.out | exact HB2.out.drewN _)); have HV3 := Lib.hid hv3; obtain ⟨hbd3, A3, ca3, rfl, hca3, hA3⟩ := hv3.eq; clear hb3 hR3 hs3 hv3 hA3 r1 r2 r3 hb4) | (go_at_call 23; have hv4 := store_four (.int .i64 b.1.kind) (.int .i64 b.1.num) (.string b.1.text) (.slice A3 b.1.items.length ca3) HK3.out; have hb34 := but_four w3 vb (.int .i64 b.1.kind) (.int .i64 b.1.num) (.string b.1.text) (.slice A3 b.1.items.length ca3); refine (HS3.out _ q3 (rdr_vb HR3.out hb34 n2 h8) HS3s.out).mono ?_; rintro e w5 ⟨⟨v5, rfl, q5, hq5, hR5, hs5⟩, hb5⟩; have hbt := (HB3.out.two.trans ((hb34.mono (M' := fun b => b = rb ∨ b = vb) fun b _ e => .inr e).trans hb5.two)); have HB5 := Lib.hid hbt; have HV5 := Lib.hid ((hb5.block vb (by have := hb34.size; have := HB3.out.size; omega) (Ne.symm n2)).trans hv4); have HX5 := Lib.hid ((HV3.out.keep (keep_vb hb34 HN3.out hlvb)).keep (keep_vb hb5 HN3.out HR.out.at'.lt)); obtain ⟨x0, x1, x2, y1, y2⟩ := hR5.cells; have hs5' := Lib.hid hs5; obtain ⟨p0, p1⟩ := box_cell ((hbt.block rv hlrv (fun h => h.elim (fun e => n1 e.symm) (fun e => n4 e.symm))).trans hrv); obtain ⟨p2, p3⟩ := box_cell ((hbt.block sb hlsb (fun h => h.elim (fun e => n3 e.symm) (fun e => n5 e.symm))).trans hsb); have hl5 := congrArg List.length hs5; rw [sfx_length] at hl5; have hlt5 : q5 < s.size := (by have := HEND.out; omega); have hj : (q5 : Int) < (s.size : Int) := (by omega); have hjd : decide ((q5 : Int) < (s.size : Int)) = true := decide_eq_true hj; have HQ5 := Lib.hid (show s.size - c.2.length = q5 by omega); clear hv4 hb34 hb5 hbt hR5 hs5 hl5))
          go_quiet (fail)
          go_wp2_with fail
          rename_i nq
          obtain ⟨w6, hw6⟩ : ∃ w6, w5.drewN nq = w6 := ⟨_, rfl⟩
          have p0' : w6.cell? ⟨rv, 0, none⟩ = some (.pointer (some ⟨rb, 0, none⟩)) := by rw [← hw6]; exact p0
          have x0' : w6.cell? ⟨rb, 0, none⟩ = some (.string s) := by rw [← hw6]; exact x0
          have x1' : w6.cell? ⟨rb, 1, none⟩ = some (.int .i64 q5) := by rw [← hw6]; exact x1
          have HB6 := Lib.hid (show But (fun b => b = rb ∨ b = vb) w w6 by rw [← hw6]; exact HB5.out.drewN _)
          rw [hw6]
          go_still_tail 5, (by kernel_rfl)
          go_wp2_with (go_at_call 25; refine (fail_calls _ _ _ _).mono ?_; rintro e w8 ⟨rfl, rfl⟩)
          rw [HQ5.out]
          exact ⟨rfl, rfl, HB6.out.drewN 1⟩
end Go.Proofs.YtoiipdknamgcmaaGreatDoor

/- Read. -/
set_option linter.unusedVariables false
set_option linter.unusedSimpArgs false
namespace Go.Proofs.YtoiipdknamgcmaaGreatDoor
open Go.RowKit Go.Shelf
attribute [local go_sem] lt_succ_of

theorem wordV_bad {W : Bs} {k k' : Nat} {e : Int} (h : wordV W k = .bad e k') : e ≠ 0 := by
  unfold wordV at h
  split at h; cases h
  split at h; cases h
  split at h; cases h
  split at h
  · injection h with h1 h2; omega
  split at h
  · injection h with h1 h2; omega
  · injection h with h1 h2; omega
  · cases h
theorem fourL_bad (k : Nat) {e : Int} {k' : Nat} : ∀ (n a : Nat) (l : Bs), fourL k n a l = .bad e k' → e ≠ 0
  | 0, a, l, h => by cases h
  | n + 1, a, [], h => by simp only [fourL] at h; injection h with h1 h2; omega
  | n + 1, a, c :: t, h => by
    rw [fourL] at h
    split at h
    · injection h with h1 h2; omega
    · exact fourL_bad k n _ t h
theorem escL_bad (k : Nat) {e : Int} {k' : Nat} : ∀ (l : Bs), escL k l = .bad e k' → e ≠ 0
  | [], h => by simp only [escL] at h; injection h with h1 h2; omega
  | c :: t, h => by
    rw [escL] at h
    split at h; cases h
    split at h; cases h
    split at h; cases h
    split at h; cases h
    split at h
    · rcases R.next_eq_bad h with h | ⟨a, h1, h2⟩
      · exact fourL_bad _ _ _ _ h
      · split at h2
        · injection h2 with h3 h4; omega
        · cases h2
    · injection h with h1 h2; omega
theorem textF_bad {e : Int} {k' : Nat} : ∀ (n : Nat) (l : Bs), textF n l = .bad e k' → e ≠ 0
  | 0, l, h => by cases h
  | n + 1, [], h => by simp only [textF] at h; injection h with h1 h2; omega
  | n + 1, c :: t, h => by
    rw [textF] at h
    split at h; cases h
    split at h
    · rcases R.next_eq_bad h with h | ⟨a, h1, h2⟩
      · exact escL_bad _ _ h
      · rcases R.next_eq_bad h2 with h | ⟨b, h3, h4⟩
        · exact textF_bad n _ h
        · cases h4
    · rcases R.next_eq_bad h with h | ⟨b, h3, h4⟩
      · exact textF_bad n _ h
      · cases h4
mutual
theorem skipF_bad (m : Bool) {e : Int} {k' : Nat} : ∀ (n d f : Nat) (l : Bs), skipF m n d f l = .bad e k' → e ≠ 0
  | 0, d, f, l, h => by rw [skipF] at h; cases h
  | n + 1, d, f, l, h => by
    rw [skipF] at h
    split at h
    · rcases R.next_eq_bad h with h | ⟨a, h1, h2⟩
      · exact skipF_bad m n _ _ _ h
      · rcases R.next_eq_bad h2 with h | ⟨b, h3, h4⟩
        · exact formF_bad m n _ _ _ h
        · exact skipF_bad m n _ _ _ h4
    · cases h
theorem formF_bad (m : Bool) {e : Int} {k' : Nat} : ∀ (n d f : Nat) (l : Bs), formF m n d f l = .bad e k' → e ≠ 0
  | 0, d, f, l, h => by rw [formF] at h; cases h
  | n + 1, d, f, [], h => by rw [formF] at h; injection h with h1 h2; omega
  | n + 1, d, f, c :: t, h => by
    have hset : ∀ (l : List V) (k : Nat), setR l k = .bad e k' → e ≠ 0 := fun l k h => by
      unfold setR at h
      split at h
      · cases h
      · injection h with h1 h2; omega
    have hmap : ∀ (l : List V) (k : Nat), mapR m l k = .bad e k' → e ≠ 0 := fun l k h => by
      unfold mapR at h
      split at h
      · cases h
      split at h
      · cases h
      · injection h with h1 h2; omega
    rw [formF] at h
    split at h
    · injection h with h1 h2; omega
    split at h
    · injection h with h1 h2; omega
    split at h
    · injection h with h1 h2; omega
    split at h
    · rcases R.next_eq_bad h with h | ⟨a, h1, h2⟩
      · exact textF_bad _ _ h
      · split at h2
        · injection h2 with h3 h4; omega
        · cases h2
    split at h
    · rcases R.next_eq_bad h with h | ⟨a, h1, h2⟩
      · exact itemsF_bad m n _ _ _ _ h
      · cases h2
    split at h
    · rcases R.next_eq_bad h with h | ⟨a, h1, h2⟩
      · exact itemsF_bad m n _ _ _ _ h
      · cases h2
    split at h
    · rcases R.next_eq_bad h with h | ⟨a, h1, h2⟩
      · exact itemsF_bad m n _ _ _ _ h
      · split at h2
        · injection h2 with h3 h4; omega
        · rcases R.next_eq_bad h2 with h | ⟨b, h3, h4⟩
          · exact hmap _ _ h
          · cases h4
    split at h
    · split at h
      · rcases R.next_eq_bad h with h | ⟨a, h1, h2⟩
        · exact itemsF_bad m n _ _ _ _ h
        · rcases R.next_eq_bad h2 with h | ⟨b, h3, h4⟩
          · exact hset _ _ h
          · cases h4
      · injection h with h1 h2; omega
    · rcases R.next_eq_bad h with h | ⟨a, h1, h2⟩
      · exact wordV_bad h
      · cases h2
theorem itemsF_bad (m : Bool) {e : Int} {k' : Nat} : ∀ (n : Nat) (x : UInt8) (d f : Nat) (l : Bs), itemsF m n x d f l = .bad e k' → e ≠ 0
  | 0, x, d, f, l, h => by rw [itemsF] at h; cases h
  | n + 1, x, d, f, l, h => by
    rw [itemsF] at h
    rcases R.next_eq_bad h with h | ⟨a, h1, h2⟩
    · exact skipF_bad m n _ _ _ h
    split at h2
    · cases h2
    rcases R.next_eq_bad h2 with h | ⟨b, h3, h4⟩
    · exact formF_bad m n _ _ _ h
    rcases R.next_eq_bad h4 with h | ⟨c, h5, h6⟩
    · exact itemsF_bad m n _ _ _ _ h
    · cases h6
end
theorem wholeF_bad {m : Bool} {n : Nat} {l : Bs} {e : Int} {k' : Nat} (h : wholeF m n l = .bad e k') : e ≠ 0 := by
  unfold wholeF at h
  rcases R.next_eq_bad h with h | ⟨a, h1, h2⟩
  · exact skipF_bad m n _ _ _ h
  rcases R.next_eq_bad h2 with h | ⟨b, h3, h4⟩
  · exact formF_bad m n _ _ _ h
  rcases R.next_eq_bad h4 with h | ⟨c, h5, h6⟩
  · exact skipF_bad m n _ _ _ h
  split at h6
  · cases h6
  · injection h6 with h7 h8; omega
theorem read_boxes (s : ByteArray) (w : World) : ∃ w1, (w.alloc (.cells #[.string s] 9)).alloc (.cells #[.int .i64 0, .int .i64 0, .string ⟨#[]⟩, .slice none 0 0] 24) = w1 ∧ Below w.heap.size w w1 ∧ w1.heap.size = w.heap.size + 2 ∧ w1.heap[w.heap.size]? = some (.cells #[.string s] 9 (0, 0)) ∧ w1.heap[w.heap.size + 1]? = some (.cells #[.int .i64 0, .int .i64 0, .string ⟨#[]⟩, .slice none 0 0] 24 (0, 0)) := by
  refine ⟨_, rfl, ((Below.refl _ _).alloc (Nat.le_refl _) _).alloc (by simp) _, by simp, ?_, ?_⟩
  · rw [Below.heap_alloc _ _ _ (by simp)]
    exact heap_alloc_new w _
  · have := heap_alloc_new (w.alloc (.cells #[.string s] 9)) (.cells #[.int .i64 0, .int .i64 0, .string ⟨#[]⟩, .slice none 0 0] 24)
    simpa using this
/-- The three boxes ahead of the work: the reader, what leads to it, the value. -/
theorem work_boxes (s : ByteArray) (w : World) : ∃ w1, ((w.alloc (.cells #[.string s, .int .i64 0, .int .i64 0] 52)).alloc (.cells #[.pointer (some ⟨w.heap.size, 0, none⟩)] 50)).alloc (.cells #[.int .i64 0, .int .i64 0, .string ⟨#[]⟩, .slice none 0 0] 24) = w1 ∧ Below w.heap.size w w1 ∧ w1.heap.size = w.heap.size + 3 ∧ w1.heap[w.heap.size]? = some (.cells #[.string s, .int .i64 0, .int .i64 0] 52 (0, 0)) ∧ w1.heap[w.heap.size + 1]? = some (.cells #[.pointer (some ⟨w.heap.size, 0, none⟩)] 50 (0, 0)) ∧ w1.heap[w.heap.size + 1 + 1]? = some (.cells #[.int .i64 0, .int .i64 0, .string ⟨#[]⟩, .slice none 0 0] 24 (0, 0)) := by
  refine ⟨_, rfl, (((Below.refl _ _).alloc (Nat.le_refl _) _).alloc (by simp) _).alloc (by simp; omega) _, by simp, ?_, ?_, ?_⟩
  · rw [Below.heap_alloc _ _ _ (by simp; omega), Below.heap_alloc _ _ _ (by simp)]
    exact heap_alloc_new w _
  · rw [Below.heap_alloc _ _ _ (by simp)]
    have := heap_alloc_new (w.alloc (.cells #[.string s, .int .i64 0, .int .i64 0] 52)) (.cells #[.pointer (some ⟨w.heap.size, 0, none⟩)] 50)
    simpa using this
  · have := heap_alloc_new ((w.alloc (.cells #[.string s, .int .i64 0, .int .i64 0] 52)).alloc (.cells #[.pointer (some ⟨w.heap.size, 0, none⟩)] 50)) (.cells #[.int .i64 0, .int .i64 0, .string ⟨#[]⟩, .slice none 0 0] 24)
    simpa using this
end Go.Proofs.YtoiipdknamgcmaaGreatDoor

/- Read, its contract. -/
set_option linter.unusedVariables false
set_option linter.unusedSimpArgs false
namespace Go.Proofs.YtoiipdknamgcmaaGreatDoor
open Go.RowKit Go.Shelf
attribute [local go_sem] lt_succ_of

/-- What Read says. -/
def ReadIs (m : Bool) (n : Nat) (s : ByteArray) (x : V) (er : Int) (at' : Nat) : Prop :=
  if 65536 < s.size then x = V.zero ∧ er = 2 ∧ at' = 0
  else if utfFrom s 0 = true then (match wholeF m n s.data.toList with | .out => False | .bad e k => x = V.zero ∧ er = e ∧ at' = s.size - k | .ok v => x = v ∧ er = 0 ∧ at' = 0)
  else x = V.zero ∧ er = 20 ∧ at' ≤ s.size
theorem zero_is' (w : World) (S : Nat → Prop) : IsV w S V.zero (.agg #[.int .i64 0, .int .i64 0, .string ⟨#[]⟩, .slice none 0 0]) :=
  word_atom (W := [110, 105, 108]) (k := 0) (a := V.zero) (by unfold wordV; rw [if_pos rfl]) w S
theorem whole_kept {vb N : Nat} {v : V} {a b : World} (h : WholeG vb (N + 2) v a) (hv : vb < N) (hb : But (fun k => k = N ∨ k = N + 1) a b) : WholeG vb (N + 2) v b := by
  obtain ⟨A, c, h1, h2⟩ := h
  have hlt := (Array.getElem?_eq_some_iff.1 h1).1
  exact ⟨A, c, (hb.block vb hlt (by omega)).trans h1, h2.keep (hb.keeps fun k h3 h4 => by have h5 : N + 2 ≤ k := h3; omega)⟩
set_option maxRecDepth 100000 in
set_option maxHeartbeats 8000000 in
theorem read_calls (m : Bool) (n : Nat) (hA : AllAt m n) (s : ByteArray) (w : World) (hT : Tabs w) (hout : s.size ≤ 65536 → utfFrom s 0 = true → wholeF m n s.data.toList ≠ .out) :
    Calls Tryz.prog 12 #[.string s] w fun e w' => ∃ v x er, ∃ at' : Nat, e = .returned (.tuple #[v, .int .i64 er, .int .i64 at']) ∧ IsV w' (fun b => w.heap.size ≤ b) x v ∧ ReadIs m n s x er at' ∧ Below w.heap.size w w' := by
  have hmf : ∀ (fn : Fn) (first cap : Array Value) (w : World), (Instr.makeFunc fn first cap).run Tryz.prog w = .ok (.func fn first cap) w := fun _ _ _ _ => rfl
  obtain ⟨w1, hw1, hB1, hs1, hb0, hb1⟩ := read_boxes s w
  have hT1 := hT.later (hB1.mono hT.big) (Nat.le_refl _)
  obtain ⟨a0, g0⟩ := box_cell hb0
  have hbeg := begun_calls s w1 hT1.utf
  unfold BegunIs at hbeg
  unfold ReadIs
  have hfl : ∀ (W : World) (hb : But (fun b => w.heap.size ≤ b) w W) , Below w.heap.size w W := fun W hb => hb.below (Nat.le_refl _) fun b h => h
  by_cases hs : 65536 < s.size
  · simp only [if_pos hs] at hbeg ⊢
    have HBG := Lib.hid hbeg
    clear hbeg hout hs
    go_enter Tryz.func12, Tryz.ntmps12
    go_wp2_with (first | (go_at_call 20; refine HBG.out.mono ?_; rintro e w2 ⟨rfl, hb2⟩; have k0 := blockB hb2 hb0; have k1 := blockB hb2 hb1; obtain ⟨e0, f0⟩ := box_cell k0; obtain ⟨c0, c1, c2, c3⟩ := block4 k1; have z0 := free4 k1 0; have z1 := free4 k1 1; have z2 := free4 k1 2; have z3 := free4 k1 3))
    refine bodyPost_ret (v := .tuple #[.agg #[.int .i64 0, .int .i64 0, .string ⟨#[]⟩, .slice none 0 0], .int .i64 2, .int .i64 (0 : Nat)]) (by simp [results, Tryz.results12, go_sem, c0, c1, c2, c3]) rfl ⟨_, V.zero, 2, 0, rfl, zero_is' _ _, ⟨rfl, rfl, rfl⟩, ?_⟩
    repeat refine Below.setCell ?_ (by simp) _
    exact below_then hB1 hB1.size hb2
  have hs2 : s.size ≤ 65536 := by omega
  simp only [if_neg hs] at hbeg ⊢
  cases hu : utfFrom s 0 with
  | false =>
    rw [hu] at hbeg
    simp only [Bool.false_eq_true, if_false] at hbeg ⊢
    have HBG := Lib.hid hbeg
    clear hbeg hout hs hu
    go_enter Tryz.func12, Tryz.ntmps12
    go_wp2_with (first | (go_at_call 20; refine HBG.out.mono ?_; rintro e w2 ⟨⟨q, hq, rfl⟩, hb2⟩; have k0 := blockB hb2 hb0; have k1 := blockB hb2 hb1; obtain ⟨e0, f0⟩ := box_cell k0; obtain ⟨c0, c1, c2, c3⟩ := block4 k1; have z0 := free4 k1 0; have z1 := free4 k1 1; have z2 := free4 k1 2; have z3 := free4 k1 3))
    refine bodyPost_ret (v := .tuple #[.agg #[.int .i64 0, .int .i64 0, .string ⟨#[]⟩, .slice none 0 0], .int .i64 20, .int .i64 (q : Nat)]) (by simp [results, Tryz.results12, go_sem, c0, c1, c2, c3]) rfl ⟨_, V.zero, 20, q, rfl, zero_is' _ _, ⟨rfl, rfl, hq⟩, ?_⟩
    repeat refine Below.setCell ?_ (by simp) _
    exact below_then hB1 hB1.size hb2
  | true =>
    rw [hu] at hbeg
    simp only [if_true] at hbeg ⊢
    have HBG := Lib.hid hbeg
    have hout2 := hout hs2 hu
    have h8 := hT.big
    have HRD : Hid (∀ w2 w3 w5 : World, Below w1.heap.size w1 w2 → Below w2.heap.size w2 w3 → w3.heap.size = w2.heap.size + 3 → w3.heap[w2.heap.size]? = some (.cells #[.string s, .int .i64 0, .int .i64 0] 52 (0, 0)) → w3.heap[w2.heap.size + 1]? = some (.cells #[.pointer (some ⟨w2.heap.size, 0, none⟩)] 50 (0, 0)) → w3.heap[w2.heap.size + 1 + 1]? = some (.cells #[.int .i64 0, .int .i64 0, .string ⟨#[]⟩, .slice none 0 0] 24 (0, 0)) → Below w3.heap.size w3 w5 →
        Calls Tryz.prog 22 #[.pointer (some ⟨w2.heap.size + 1, 0, none⟩), .pointer (some ⟨w2.heap.size + 1 + 1, 0, none⟩), .pointer (some ⟨w.heap.size, 0, none⟩)] w5 (WholeP s w2.heap.size (w2.heap.size + 1 + 1) w5 (wholeF m n s.data.toList))) := Lib.hid fun w2 w3 w5 hb2 hb3 hs3 r0 r1 r2 hb5 => by
      have hs12 := hb2.size
      have h3 : Below w2.heap.size w2 w5 := below_then hb3 hb3.size hb5
      have htab : Tabs w5 := ((hT1.later (hb2.mono hT1.big) (Nat.le_refl _)).later (h3.mono (by omega)) (Nat.le_refl _))
      exact read1_calls m n hA w2.heap.size (w2.heap.size + 1) (w2.heap.size + 1 + 1) w.heap.size s w5 ⟨blockB hb5 r0, Nat.zero_le _, hs2, htab, by omega, by decide⟩ (blockB hb5 r1) ((h3.block _ (by omega)).trans (blockB hb2 hb0)) (blockB hb5 r2) (by omega) (by omega) (by omega) (by omega) (by omega) (by omega) hout2
    have HBS := Lib.hid hs1
    clear hbeg hout hs hu
    cases hW : wholeF m n s.data.toList with
    | out => exact absurd hW hout2
    | bad er k =>
      have her := wholeF_bad hW
      rw [hW] at HRD
      have hne : (er == 0) = false := by rw [beq_eq_false_iff_ne]; exact her
      have hne2 : (er != 0) = true := by rw [bne, hne]; rfl
      clear hout2 hW her
      dsimp only
      go_enter Tryz.func12, Tryz.ntmps12
      go_wp2_with (first | (go_at_call 20; refine HBG.out.mono ?_; rintro e w2 ⟨rfl, hb2⟩; have k0 := blockB hb2 hb0; have k1 := blockB hb2 hb1; obtain ⟨e0, f0⟩ := box_cell k0; obtain ⟨c0, c1, c2, c3⟩ := block4 k1; have z0 := free4 k1 0; have z1 := free4 k1 1; have z2 := free4 k1 2; have z3 := free4 k1 3; obtain ⟨w3, hw3, hB3, hs3, r0, r1, r2⟩ := work_boxes s w2; have HR0 := Lib.hid r0; have HR1 := Lib.hid r1; have HR2 := Lib.hid r2; have HS3 := Lib.hid hs3; have K1 := Lib.hid k1; clear r0 r1 r2 hs3 c0 c1 c2 c3 z0 z1 z2 z3 k1) | (go_at_call 21; refine (caught_bad _ w3 er (s.size - k : Nat) w2.heap.size hB3.size (fun w5 hb5 hsz5 => (HRD.out w2 w3 w5 hb2 hB3 HS3.out HR0.out HR1.out HR2.out hb5).mono fun e w6 h => ⟨h.1, h.2.mono fun b _ h => by have := HS3.out; omega⟩)).mono ?_; rintro e w4 ⟨rfl, hb4⟩; have hs12 := hb2.size; have hs13 := HBS.out; have hk4 := (hb4.block (w.heap.size + 1) (by have := HS3.out; omega) (by omega)).trans (blockB hB3 K1.out); obtain ⟨c0, c1, c2, c3⟩ := block4 hk4; have z0 := free4 hk4 0; have z1 := free4 hk4 1; have z2 := free4 hk4 2; have z3 := free4 hk4 3; have hs33 := HS3.out; have HB4 : Hid (Below w.heap.size w w4) := Lib.hid ((below_then hB1 hB1.size (below_then hb2 hb2.size hB3)).trans (hb4.below (n := w.heap.size) (by omega) (fun b h => by omega))); clear hk4))
      refine bodyPost_ret (v := .tuple #[.agg #[.int .i64 0, .int .i64 0, .string ⟨#[]⟩, .slice none 0 0], .int .i64 er, .int .i64 (s.size - k : Nat)]) (by simp [results, Tryz.results12, go_sem, c0, c1, c2, c3]) rfl ⟨_, V.zero, er, s.size - k, rfl, zero_is' _ _, ⟨rfl, rfl, rfl⟩, ?_⟩
      repeat refine Below.setCell ?_ (by simp) _
      exact HB4.out
    | ok v =>
      rw [hW] at HRD
      clear hout2 hW
      dsimp only
      go_enter Tryz.func12, Tryz.ntmps12
      go_wp2_with (first | (go_at_call 20; refine HBG.out.mono ?_; rintro e w2 ⟨rfl, hb2⟩; have k0 := blockB hb2 hb0; have k1 := blockB hb2 hb1; obtain ⟨e0, f0⟩ := box_cell k0; obtain ⟨c0, c1, c2, c3⟩ := block4 k1; have z0 := free4 k1 0; have z1 := free4 k1 1; have z2 := free4 k1 2; have z3 := free4 k1 3; obtain ⟨w3, hw3, hB3, hs3, r0, r1, r2⟩ := work_boxes s w2; have HR0 := Lib.hid r0; have HR1 := Lib.hid r1; have HR2 := Lib.hid r2; have HS3 := Lib.hid hs3; have K1 := Lib.hid k1; clear r0 r1 r2 hs3 c0 c1 c2 c3 z0 z1 z2 z3 k1) | (go_at_call 21; refine (caught_ok _ w3 w2.heap.size hB3.size (WholeG (w2.heap.size + 1 + 1) (w3.heap.size + 2) v) (fun a b h1 h2 => whole_kept h1 (by have := HS3.out; omega) h2) (fun w5 hb5 hsz5 => (HRD.out w2 w3 w5 hb2 hB3 HS3.out HR0.out HR1.out HR2.out hb5).mono fun e w6 h => ⟨h.1, h.2.1.mono fun b _ h => by have := HS3.out; omega, by rw [← hsz5]; exact h.2.2⟩)).mono ?_; rintro e w4 ⟨rfl, hb4, hwh⟩; have hs12 := hb2.size; have hs13 := HBS.out; have hk4 := (hb4.block (w.heap.size + 1) (by have := HS3.out; omega) (by omega)).trans (blockB hB3 K1.out); have q0 := (hb4.block (w.heap.size) (by have := HS3.out; omega) (by omega)); obtain ⟨c0, c1, c2, c3⟩ := block4 hk4; have z0 := free4 hk4 0; have z1 := free4 hk4 1; have z2 := free4 hk4 2; have z3 := free4 hk4 3; obtain ⟨A9, c9, hv9, hi9⟩ := hwh; obtain ⟨y0, y1, y2, y3⟩ := block4 hv9; have HI9 := Lib.hid hi9; have hs33 := HS3.out; have HB4 : Hid (Below w.heap.size w w4) := Lib.hid ((below_then hB1 hB1.size (below_then hb2 hb2.size hB3)).trans (hb4.below (n := w.heap.size) (by omega) (fun b h => by omega))); clear hk4 hv9 hi9))
      have hs44 := HS3.out
      have hs45 := HB4.out.size
      refine bodyPost_ret (v := .tuple #[.agg #[.int .i64 v.kind, .int .i64 v.num, .string v.text, .slice A9 v.items.length c9], .int .i64 0, .int .i64 (0 : Nat)]) (by simp [results, Tryz.results12, go_sem, c0, c1, c2, c3]) rfl ⟨_, v, 0, 0, rfl, (HI9.out.keep ((but_four w4 (w.heap.size + 1) _ _ _ _).keeps fun b h1 (h2 : b = w.heap.size + 1) => by have h3 : w3.heap.size + 2 ≤ b := h1; omega)).keep (Keeps.weak fun b (h : w3.heap.size + 2 ≤ b) => show w.heap.size ≤ b by omega), ⟨rfl, rfl, rfl⟩, ?_⟩
      repeat refine Below.setCell ?_ (by simp) _
      exact HB4.out
end Go.Proofs.YtoiipdknamgcmaaGreatDoor
