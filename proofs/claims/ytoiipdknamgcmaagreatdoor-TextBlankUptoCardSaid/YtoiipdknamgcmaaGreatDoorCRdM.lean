/- The reader's sets. -/
import Derived.Test.YtoiipdknamgcmaaGreatDoorCRdJ

set_option linter.unusedVariables false
set_option linter.unusedSimpArgs false
namespace Go.Proofs.YtoiipdknamgcmaaGreatDoor
open Go.RowKit Go.Shelf
attribute [local go_sem] lt_succ_of

theorem insV_length (x : V) (l : List V) : (insV x l).length = l.length + 1 := by
  induction l with
  | nil => rfl
  | cons y l ih => rw [insV]; split <;> simp [ih]
theorem sortV_length (l : List V) : (sortV l).length = l.length := by
  induction l with
  | nil => rfl
  | cons x l ih => rw [sortV, insV_length, ih]; rfl
/-- What value.Set says, as far as the reader asks. -/
def SetOk (l : List V) : Prop := listOk l = true ∧ rightB (V.set (sortV l)) = true
instance (l : List V) : Decidable (SetOk l) := by unfold SetOk; infer_instance
def SetC : Prop := ∀ (l : List V) (vl : Value) (w : World) (S : Nat → Prop), IsS w S l vl → Tabs w → l.length ≤ 65536 →
  Calls Tryz.prog 58 #[vl] w fun e w' => ∃ v x er, e = .returned (.tuple #[v, .int .i64 er]) ∧ IsV w' (fun b => w.heap.size ≤ b) x v ∧ Below w.heap.size w w' ∧ ((SetOk l ∧ x = V.set (sortV l)) ∨ (¬ SetOk l ∧ x.items.length < l.length))
theorem sfx_tail (s : ByteArray) (q : Nat) : sfx s (q + 1) = (sfx s q).tail := by unfold sfx; rw [List.tail_drop]
theorem setR_eq (l : List V) (k : Nat) : setR l k = if SetOk l then .ok (V.set (sortV l)) else .bad 26 k := rfl
set_option maxRecDepth 100000 in
set_option maxHeartbeats 8000000 in
theorem set_step (m : Bool) (n : Nat) (ih : ItemsAt m n) (hS : SetC) (d f p rb : Nat) (s : ByteArray) (w : World) (hr : Rdr w rb s p f) (hp : p + 2 ≤ s.size) (hd : d ≤ 16) (hout : itemsF m n 125 (d + 1) f (sfx s (p + 2)) ≠ .out) :
    Calls Tryz.prog 43 #[.pointer (some ⟨rb, 0, none⟩), .int .i64 d] w (PostM (· = rb) s w ((itemsF m n 125 (d + 1) f (sfx s (p + 2))).next fun q => (setR q.1 (s.size - p)).next fun v => .ok (v, q.2.1, q.2.2.tail)) (FormG rb s w.heap.size)) := by
  have hb := byteAt_eq s
  have hs16 := hr.len
  have hrbw : rb < w.heap.size := hr.at'.lt
  obtain ⟨w1, hw1, hB1, hsz1, hb1⟩ := box1 w (.int .i64 0) (.int .i64 0) (.string ⟨#[]⟩) (.slice none 0 0) 24
  have hr1 := hr.keep hB1
  obtain ⟨a0, a1, a2, g1, g2⟩ := hr1.at'.cells
  have HR1 := Lib.hid hr1
  have HIT : Hid (∀ W, Rdr W rb s (p + 2) f → Calls Tryz.prog 41 #[.pointer (some ⟨rb, 0, none⟩), .int .u8 125, .int .i64 ((d : Int) + 1)] W (PostM (· = rb) s W (itemsF m n 125 (d + 1) f (sfx s (p + 2))) (ItemsG rb s W.heap.size))) := Lib.hid fun W hW => ih 125 (d + 1) f (p + 2) rb s W hW (by omega) hout
  have hd1 : IntKind.i64.wrap ((d : Int) + 1) = (d : Int) + 1 := IntWalk.i64_in _ (by omega)
  have HP2 := Lib.hid hp
  have hpp : s.size - (s.size - p) = p := by omega
  cases hA : itemsF m n 125 (d + 1) f (sfx s (p + 2)) with
  | out => exact absurd hA hout
  | bad er kk =>
    rw [hA] at HIT
    rw [R.next_bad]
    clear hout hA
    go_enter Tryz.func43, Tryz.ntmps43
    go_wp2_with (go_at_call 41; refine (HIT.out _ (HR1.out.moved 0 (p + 2) HP2.out)).mono ?_; rintro e w3 ⟨rfl, hb3⟩)
    exact ⟨rfl, rfl, ((But.of hB1).trans ((but_moved w1 rb 0 _).trans hb3))⟩
  | ok a =>
    have hcnt := itemsF_count m n 125 (d + 1) f _ a hA
    have hfs := itemsF_forms m n 125 (d + 1) f _ a hA hr.forms
    have hhd := itemsF_head m n 125 (d + 1) f _ a hA
    rw [sfx_length] at hcnt
    rw [hA] at HIT
    rw [R.next_ok]
    have hlp : 0 < a.2.2.length := by
      cases h : a.2.2 with
      | nil => rw [h] at hhd; cases hhd
      | cons c t => simp
    have HC := Lib.hid fun (W : World) vl S (h1 : IsS W S a.1 vl) (h2 : Tabs W) => hS a.1 vl W S h1 h2 (by omega)
    clear hout hA
    by_cases hok : SetOk a.1
    · have hse : setR a.1 (s.size - p) = .ok (V.set (sortV a.1)) := by rw [setR_eq, if_pos hok]
      rw [hse, R.next_ok]
      have HSL : Hid ((V.set (sortV a.1)).items.length = a.1.length) := Lib.hid (sortV_length a.1)
      go_enter Tryz.func43, Tryz.ntmps43
      go_wp2_with (first
        | (go_at_call 41; refine (HIT.out _ (HR1.out.moved 0 (p + 2) HP2.out)).mono ?_; rintro e w3 ⟨⟨v3, rfl, hv3, q3, hq3, hR3, hs3⟩, hb3⟩; have hl3 := congrArg List.length hs3; rw [sfx_length] at hl3; have hb3' := (but_moved w1 rb 0 _).trans hb3; have hr3 := (HR1.out.but hb3' hR3 hq3 hfs); obtain ⟨c0, c1, c2, f1, f2⟩ := hr3.at'.cells; have HV3 := Lib.hid (hv3.keep (Keeps.weak (S' := fun b => w1.heap.size ≤ b) fun b hb => Nat.le_trans (but_moved w1 rb 0 (.int .i64 ((p : Int) + 2))).size hb)); obtain ⟨A3, ca3, rfl, hca3, hl32, hA3⟩ := hv3; have HR3 := Lib.hid hr3; have HB3 := Lib.hid ((But.of hB1).trans hb3'); have HBI := Lib.hid hb3'; clear hb3 hb3' hr3 hA3 hR3)
        | (go_at_call 58; have HX4 := Lib.hid ((but_moved w3 rb 0 (.int .i64 ((q3 : Int) + 1)))); refine (HC.out _ _ _ (HV3.out.keep (HX4.out.keeps fun b hb e => Nat.lt_irrefl _ (Nat.lt_of_lt_of_le (Nat.lt_trans hrbw hsz1) (e ▸ hb)))) ((HR3.out.moved 0 (q3 + 1) (by omega)).tabs)).mono ?_; rintro e w4 ⟨v4, x4, er4, rfl, hv4, hb4, ho4⟩; obtain ⟨hbd4, A4, c4, rfl, hc4, hA4⟩ := hv4.eq; obtain rfl : x4 = V.set (sortV a.1) := ho4.elim (fun h => h.2) (fun h => absurd hok h.1); have hxl : (V.set (sortV a.1)).items.length = a.1.length := HSL.out; have HB4 := Lib.hid ((HB3.out.trans HX4.out).trans (But.of hb4)); have HR4 := Lib.hid ((HR3.out.moved 0 (q3 + 1) (by omega)).keep hb4); have HV4 := Lib.hid hv4; have HS3 := Lib.hid hs3; have HW3 := Lib.hid (Nat.le_trans HBI.out.size HX4.out.size); have hk4 : w4.heap[w.heap.size]? = some (.cells #[.int .i64 0, .int .i64 0, .string ⟨#[]⟩, .slice none 0 0] 24 (0, 0)) := ((HBI.out.trans (HX4.out.trans (But.of hb4))).block w.heap.size hsz1 (Nat.ne_of_gt hrbw)).trans hb1; obtain ⟨w5, hw5, hB5, hsz5, hb5⟩ := box1 w4 (.int .i64 (V.set (sortV a.1)).kind) (.int .i64 (V.set (sortV a.1)).num) (.string (V.set (sortV a.1)).text) (.slice A4 a.1.length c4) 24; have hk5 := blockB hB5 hk4; obtain ⟨k0, k1, k2, k3⟩ := block4 hk5; have z0 := free4 hk5 0; have z1 := free4 hk5 1; have z2 := free4 hk5 2; have z3 := free4 hk5 3; obtain ⟨m0, m1, m2, m3⟩ := block4 hb5; clear hv4 hA4 ho4 hk4 hk5 hb5))
      have hsz4 : w.heap.size < w4.heap.size := Nat.lt_of_lt_of_le hsz1 (Nat.le_trans HW3.out hb4.size)
      have hn1 : ¬ w4.heap.size = w.heap.size := Nat.ne_of_gt hsz4
      have hn2 : rb ≠ w.heap.size := Nat.ne_of_lt hrbw
      refine bodyPost_ret (v := .agg #[.int .i64 (V.set (sortV a.1)).kind, .int .i64 (V.set (sortV a.1)).num, .string (V.set (sortV a.1)).text, .slice A4 a.1.length c4]) (by simp [results, Tryz.results43, go_sem, k0, k1, k2, k3]) rfl ?_
      have hv := HV4.out
      rw [HSL.out] at hv
      have hr5 := HR4.out.at'.keep hB5
      refine ⟨⟨_, rfl, (hv.keep (S' := fun b => w.heap.size < b) ?_).keep (Keeps.weak fun b (h : w.heap.size < b) => Nat.le_of_lt h), q3 + 1, by omega, (((hr5.other hn2 _).other hn2 _).other hn2 _).other hn2 _, by rw [sfx_tail, HS3.out]⟩, ((((HB4.out.trans (But.of hB5)).set (.inl (Nat.le_refl _)) _).set (.inl (Nat.le_refl _)) _).set (.inl (Nat.le_refl _)) _).set (.inl (Nat.le_refl _)) _⟩
      have hn : ∀ a : Addr, a.block = w.heap.size → ¬ (fun b => w.heap.size < b) a.block := fun a h (h2 : w.heap.size < a.block) => by omega
      refine Keeps.set_after ?_ (hn _ rfl) _
      refine Keeps.set_after ?_ (hn _ rfl) _
      refine Keeps.set_after ?_ (hn _ rfl) _
      refine Keeps.set_after ?_ (hn _ rfl) _
      exact Keeps.below_to hB5 fun b hb h1 => Nat.lt_of_lt_of_le hsz1 (Nat.le_trans HW3.out h1)
    · have hse : setR a.1 (s.size - p) = .bad 26 (s.size - p) := by rw [setR_eq, if_neg hok]
      rw [hse, R.next_bad]
      unfold PostM
      dsimp only
      rw [hpp]
      go_enter Tryz.func43, Tryz.ntmps43
      go_wp2_with (first
        | (go_at_call 41; refine (HIT.out _ (HR1.out.moved 0 (p + 2) HP2.out)).mono ?_; rintro e w3 ⟨⟨v3, rfl, hv3, q3, hq3, hR3, hs3⟩, hb3⟩; have hl3 := congrArg List.length hs3; rw [sfx_length] at hl3; have hb3' := (but_moved w1 rb 0 _).trans hb3; have hr3 := (HR1.out.but hb3' hR3 hq3 hfs); obtain ⟨c0, c1, c2, f1, f2⟩ := hr3.at'.cells; have HV3 := Lib.hid (hv3.keep (Keeps.weak (S' := fun b => w1.heap.size ≤ b) fun b hb => Nat.le_trans (but_moved w1 rb 0 (.int .i64 ((p : Int) + 2))).size hb)); obtain ⟨A3, ca3, rfl, hca3, hl32, hA3⟩ := hv3; have HR3 := Lib.hid hr3; have HB3 := Lib.hid ((But.of hB1).trans hb3'); clear hb3 hb3' hr3 hA3 hR3)
        | (go_at_call 58; have HX4 := Lib.hid ((but_moved w3 rb 0 (.int .i64 ((q3 : Int) + 1)))); refine (HC.out _ _ _ (HV3.out.keep (HX4.out.keeps fun b hb e => Nat.lt_irrefl _ (Nat.lt_of_lt_of_le (Nat.lt_trans hrbw hsz1) (e ▸ hb)))) ((HR3.out.moved 0 (q3 + 1) (by omega)).tabs)).mono ?_; rintro e w4 ⟨v4, x4, er4, rfl, hv4, hb4, ho4⟩; obtain ⟨hbd4, A4, c4, rfl, hc4, hA4⟩ := hv4.eq; have hxl : x4.items.length < a.1.length := ho4.elim (fun h => absurd h.1 hok) (fun h => h.2); have HB4 := Lib.hid ((HB3.out.trans HX4.out).trans (But.of hb4)); clear hv4 hA4 ho4) | (go_at_call 25; refine (fail_calls _ _ _ _).mono ?_; rintro e w8 ⟨rfl, rfl⟩))
      exact ⟨rfl, rfl, HB4.out.trans (But.of ((Below.refl _ _).alloc (Nat.le_refl _) _))⟩
end Go.Proofs.YtoiipdknamgcmaaGreatDoor
