/- The reader's forms: what is to be shown; what is left out. The reader's forms up to an end. -/
import Derived.Test.YtoiipdknamgcmaaGreatDoorCRdH
/- The reader's forms: what is to be shown; what is left out. -/
set_option linter.unusedVariables false
set_option linter.unusedSimpArgs false
namespace Go.Proofs.YtoiipdknamgcmaaGreatDoor
open Go.RowKit Go.Shelf
attribute [local go_sem] lt_succ_of

/-- A reader in a world, in a place. -/
structure Rdr (w : World) (rb : Nat) (s : ByteArray) (p f : Nat) : Prop where
  at' : RdAt w rb s p f
  place : p ≤ s.size
  len : s.size ≤ 65536
  tabs : Tabs w
  big : 8 ≤ rb
  forms : f ≤ 1024
theorem Rdr.but {w w' : World} {rb : Nat} {s : ByteArray} {p f q g : Nat} (h : Rdr w rb s p f) (hb : But (· = rb) w w') (hr : RdAt w' rb s q g) (hq : q ≤ s.size) (hg : g ≤ 1024) : Rdr w' rb s q g :=
  ⟨hr, hq, h.len, h.tabs.later (hb.below (n := 8) h.tabs.big (by rintro k rfl; exact h.big)) (Nat.le_refl _), h.big, hg⟩
theorem Rdr.keep {w w' : World} {rb : Nat} {s : ByteArray} {p f : Nat} (h : Rdr w rb s p f) (hb : Below w.heap.size w w') : Rdr w' rb s p f :=
  h.but (But.of hb) (h.at'.keep hb) h.place h.forms
theorem Rdr.moved {w : World} {rb : Nat} {s : ByteArray} {p f : Nat} (h : Rdr w rb s p f) (n q : Nat) (hq : q ≤ s.size) : Rdr ((w.drewN n).setCell ⟨rb, 1, none⟩ (.int .i64 q)) rb s q f :=
  h.but (But.set (M := fun k => k = rb) ((But.of (Below.refl _ _)).drewN n) (.inr rfl) _) (RdAt.move (w := w.drewN n) h.at' q) hq h.forms
theorem but_moved (w : World) (rb n : Nat) (v : Value) : But (· = rb) w ((w.drewN n).setCell ⟨rb, 1, none⟩ v) := But.set (M := fun k => k = rb) ((But.of (Below.refl _ _)).drewN n) (.inr rfl) _
theorem rest_bytes (s : ByteArray) (q : Nat) : (s.extract q s.size).data.toList = sfx s q := by
  rw [ByteArray.data_extract, Array.toList_extract, List.extract_eq_take_drop]
  exact List.take_of_length_le (by rw [List.length_drop]; exact Nat.le_refl _)
def SkipG (rb : Nat) (s : ByteArray) (a : Nat × Bs) (v : Value) (w' : World) : Prop := ∃ q, q ≤ s.size ∧ RdAt w' rb s q a.1 ∧ sfx s q = a.2
def FormG (rb : Nat) (s : ByteArray) (B : Nat) (a : V × Nat × Bs) (v : Value) (w' : World) : Prop := IsV w' (fun b => B ≤ b) a.1 v ∧ ∃ q, q ≤ s.size ∧ RdAt w' rb s q a.2.1 ∧ sfx s q = a.2.2
def ItemsG (rb : Nat) (s : ByteArray) (B : Nat) (a : List V × Nat × Bs) (v : Value) (w' : World) : Prop := IsS w' (fun b => B ≤ b) a.1 v ∧ ∃ q, q ≤ s.size ∧ RdAt w' rb s q a.2.1 ∧ sfx s q = a.2.2
def SkipAt (m : Bool) (n : Nat) : Prop := ∀ (d f p rb : Nat) (s : ByteArray) (w : World), Rdr w rb s p f → d ≤ 17 → skipF m n d f (sfx s p) ≠ .out →
  Calls Tryz.prog 23 #[.pointer (some ⟨rb, 0, none⟩), .int .i64 d] w (PostM (· = rb) s w (skipF m n d f (sfx s p)) (SkipG rb s))
def FormAt (m : Bool) (n : Nat) : Prop := ∀ (d f p rb : Nat) (s : ByteArray) (w : World), Rdr w rb s p f → d ≤ 17 → formF m n d f (sfx s p) ≠ .out →
  Calls Tryz.prog 24 #[.pointer (some ⟨rb, 0, none⟩), .int .i64 d] w (PostM (· = rb) s w (formF m n d f (sfx s p)) (FormG rb s w.heap.size))
def ItemsAt (m : Bool) (n : Nat) : Prop := ∀ (e : UInt8) (d f p rb : Nat) (s : ByteArray) (w : World), Rdr w rb s p f → d ≤ 17 → itemsF m n e d f (sfx s p) ≠ .out →
  Calls Tryz.prog 41 #[.pointer (some ⟨rb, 0, none⟩), .int .u8 e.toNat, .int .i64 d] w (PostM (· = rb) s w (itemsF m n e d f (sfx s p)) (ItemsG rb s w.heap.size))
/-- All of them with so much fuel. -/
def AllAt (m : Bool) (n : Nat) : Prop := ∀ j, j ≤ n → SkipAt m j ∧ FormAt m j ∧ ItemsAt m j
theorem R.next_in {α β : Type} {r : R α} {f : α → R β} (h : r.next f ≠ .out) : r ≠ .out := by rintro rfl; exact h rfl
mutual
theorem skipF_forms (m : Bool) : ∀ (n d f : Nat) (l : Bs) (p : Nat × Bs), skipF m n d f l = .ok p → f ≤ 1024 → p.1 ≤ 1024
  | 0, d, f, l, p, h, hf => by rw [skipF] at h; cases h
  | n + 1, d, f, l, p, h, hf => by
    rw [skipF] at h
    split at h
    · obtain ⟨a, h1, h2⟩ := R.next_eq_ok h
      obtain ⟨b, h3, h4⟩ := R.next_eq_ok h2
      exact skipF_forms m n _ _ _ _ h4 (formF_forms m n _ _ _ _ h3 (skipF_forms m n _ _ _ _ h1 hf))
    · injection h with h; subst h; exact hf
theorem formF_forms (m : Bool) : ∀ (n d f : Nat) (l : Bs) (p : V × Nat × Bs), formF m n d f l = .ok p → f ≤ 1024 → p.2.1 ≤ 1024
  | 0, d, f, l, p, h, hf => by rw [formF] at h; cases h
  | n + 1, d, f, [], p, h, hf => by rw [formF] at h; cases h
  | n + 1, d, f, c :: t, p, h, hf => by
    rw [formF] at h
    split at h; cases h
    split at h; cases h
    split at h; cases h
    rename_i hm
    have hm2 : f + 1 ≤ 1024 := by omega
    split at h
    · obtain ⟨a, h1, h2⟩ := R.next_eq_ok h
      split at h2; cases h2
      injection h2 with h2; subst h2; exact hm2
    split at h
    · obtain ⟨a, h1, h2⟩ := R.next_eq_ok h
      injection h2 with h2; subst h2; exact itemsF_forms m n _ _ _ _ _ h1 hm2
    split at h
    · obtain ⟨a, h1, h2⟩ := R.next_eq_ok h
      injection h2 with h2; subst h2; exact itemsF_forms m n _ _ _ _ _ h1 hm2
    split at h
    · obtain ⟨a, h1, h2⟩ := R.next_eq_ok h
      split at h2; cases h2
      obtain ⟨b, h3, h4⟩ := R.next_eq_ok h2
      injection h4 with h4; subst h4; exact itemsF_forms m n _ _ _ _ _ h1 hm2
    split at h
    · split at h
      · obtain ⟨a, h1, h2⟩ := R.next_eq_ok h
        obtain ⟨b, h3, h4⟩ := R.next_eq_ok h2
        injection h4 with h4; subst h4; exact itemsF_forms m n _ _ _ _ _ h1 hm2
      · cases h
    obtain ⟨a, h1, h2⟩ := R.next_eq_ok h
    injection h2 with h2; subst h2; exact hm2
theorem itemsF_forms (m : Bool) : ∀ (n : Nat) (e : UInt8) (d f : Nat) (l : Bs) (p : List V × Nat × Bs), itemsF m n e d f l = .ok p → f ≤ 1024 → p.2.1 ≤ 1024
  | 0, e, d, f, l, p, h, hf => by rw [itemsF] at h; cases h
  | n + 1, e, d, f, l, p, h, hf => by
    rw [itemsF] at h
    obtain ⟨a, h1, h2⟩ := R.next_eq_ok h
    have k1 := skipF_forms m n _ _ _ _ h1 hf
    split at h2
    · injection h2 with h2; subst h2; exact k1
    obtain ⟨b, h3, h4⟩ := R.next_eq_ok h2
    obtain ⟨c, h5, h6⟩ := R.next_eq_ok h4
    have k3 := itemsF_forms m n _ _ _ _ _ h5 (formF_forms m n _ _ _ _ h3 k1)
    injection h6 with h6; subst h6; exact k3
end
set_option maxRecDepth 100000 in
set_option maxHeartbeats 8000000 in
theorem skip_step (m : Bool) (n : Nat) (ih : AllAt m n) : SkipAt m (n + 1) := by
  intro d f p rb s w hr hd hout
  have hb := byteAt_eq s
  have HIH := Lib.hid ih
  have HR := Lib.hid hr
  have hs16 := hr.len
  obtain ⟨T0, hT0⟩ : ∃ T0, skipF m (n + 1) d f (sfx s p) = T0 := ⟨_, rfl⟩
  rw [hT0] at hout ⊢
  have HOUT := Lib.hid hout
  clear ih hout
  go_enter Tryz.func23, Tryz.ntmps23
  go_wp2_with fail
  go_loopw [] (fun wr => ∃ k q g : Nat, k ≤ n + 1 ∧ Hid (Rdr wr rb s q g) ∧ Hid (T0 = skipF m k d g (sfx s q)) ∧ Hid (But (· = rb) w wr)) (fun wr => s.size - atOf wr rb)
  case atStart => exact ⟨n + 1, p, f, Nat.le_refl _, HR, Lib.hid hT0.symm, Lib.hid (But.of (Below.refl _ _))⟩
  case round =>
    obtain ⟨k, q, g, hk, hR, hE, hB⟩ := hrel
    obtain ⟨j, rfl⟩ : ∃ j, k = j + 1 := by
      cases k with
      | zero => exact absurd (hE.out.trans (by rw [skipF])) HOUT.out
      | succ j => exact ⟨j, rfl⟩
    have hE2 := hE.out
    rw [skipF] at hE2
    have HS := Lib.hid (spaced_calls rb s q g wr hR.out.at' hR.out.place hR.out.len)
    clear hT0
    go_wp2_with (go_at_call 38; refine HS.out.mono ?_; rintro e w2 ⟨⟨v, rfl⟩, q2, hq2, hR2, hs2, hB2⟩; rw [← hs2] at hE2; have HE2 := Lib.hid hE2; have HR2 := Lib.hid (hR.out.but hB2 hR2 hq2 hR.out.forms); have HB2 := Lib.hid (hB.out.trans hB2); have HSL := Lib.hid (show s.size - q2 ≤ s.size - q by have := spaceL_le (sfx s q) false; rw [← hs2, sfx_length, sfx_length] at this; omega); obtain ⟨c0, c1, c2, f1, f2⟩ := hR2.cells; clear hR2 hs2 hB2 hE2)
    have HP := Lib.hid fun W => Tryz.strings_HasPrefix (s.extract q2 s.size) ⟨#[35, 95]⟩ W
    rw [rest_bytes] at HP
    have hE3 := HE2.out
    change Hid (∀ W, Calls _ _ _ W fun e w' => e = .returned (.bool (Lib.hasPrefix (sfx s q2) [35, 95])) ∧ w' = W) at HP
    cases hpre : Lib.hasPrefix (sfx s q2) [35, 95] with
    | false =>
      rw [hpre] at HP
      rw [hpre, if_neg (by decide)] at hE3
      subst hE3
      clear hpre
      go_quiet ((go_at_call 39; exact (HP.out _).mono fun _ _ hh => ⟨hh.1, _, hh.2⟩))
      go_wp2_with fail
      refine bodyPost_ret (results_none rfl _ _ _) rfl ?_
      exact ⟨⟨_, rfl, q2, HR2.out.place, HR2.out.at', rfl⟩, HB2.out.drewN _⟩
    | true =>
      rw [hpre] at HP
      rw [hpre, if_pos rfl] at hE3
      have hlen : q2 + 2 ≤ s.size := by
        have h1 : [35, 95] <+: sfx s q2 := List.isPrefixOf_iff_prefix.1 hpre
        have := h1.length_le
        rw [sfx_length] at this
        simp at this
        omega
      have HQ2 := Lib.hid hlen
      have hdrop : (sfx s q2).drop 2 = sfx s (q2 + 2) := by unfold sfx; rw [List.drop_drop]
      rw [hdrop] at hE3
      have hAne : skipF m j d g (sfx s (q2 + 2)) ≠ .out := R.next_in (by rw [← hE3]; exact HOUT.out)
      have HSK := Lib.hid fun W (hW : Rdr W rb s (q2 + 2) g) => (HIH.out j (by omega)).1 d g (q2 + 2) rb s W hW hd hAne
      cases hA : skipF m j d g (sfx s (q2 + 2)) with
      | out => exact absurd hA hAne
      | bad er kk =>
        rw [hA] at HSK hE3
        obtain rfl : T0 = .bad er kk := hE3
        clear hpre hdrop hAne hA
        go_quiet ((go_at_call 39; exact (HP.out _).mono fun _ _ hh => ⟨hh.1, _, hh.2⟩))
        go_wp2_with (go_at_call 23; refine (HSK.out _ (HR2.out.moved _ (q2 + 2) HQ2.out)).mono ?_; rintro e w3 ⟨rfl, hb3⟩)
        exact ⟨rfl, rfl, (HB2.out.trans (but_moved _ _ _ _)).trans hb3⟩
      | ok a =>
        have ha1 := skipF_forms m j d g _ a hA hR.out.forms
        rw [hA] at HSK hE3
        have hE4 : T0 = (formF m j d a.1 a.2).next fun q => skipF m j d q.2.1 q.2.2 := hE3
        have hFne : formF m j d a.1 a.2 ≠ .out := R.next_in (by rw [← hE4]; exact HOUT.out)
        have hlt := formF_lt m j d a.1 a.2
        have hfs := formF_forms m j d a.1 a.2
        have hal := skipF_le m j d g _ a hA
        rw [sfx_length] at hal
        have HFO := Lib.hid fun W q3 (hW : Rdr W rb s q3 a.1) (hs3 : sfx s q3 = a.2) => (show Calls Tryz.prog 24 #[.pointer (some ⟨rb, 0, none⟩), .int .i64 d] W (PostM (· = rb) s W (formF m j d a.1 a.2) (FormG rb s W.heap.size)) by
          rw [← hs3]
          exact (HIH.out j (by omega)).2.1 d a.1 q3 rb s W hW hd (by rw [hs3]; exact hFne))
        cases hF : formF m j d a.1 a.2 with
        | out => exact absurd hF hFne
        | bad er kk =>
          rw [hF] at HFO hE4
          obtain rfl : T0 = .bad er kk := hE4
          clear hpre hdrop hAne hA hF hFne hlt hfs hal
          go_quiet ((go_at_call 39; exact (HP.out _).mono fun _ _ hh => ⟨hh.1, _, hh.2⟩))
          go_wp2_with (first | (go_at_call 23; refine (HSK.out _ (HR2.out.moved _ (q2 + 2) HQ2.out)).mono ?_; rintro e w3 ⟨⟨v3, rfl, q3, hq3, hR3, hs3⟩, hb3⟩; have HB3 := Lib.hid ((HB2.out.trans (but_moved _ _ _ _)).trans hb3); have HR3 := Lib.hid (((HR2.out.moved _ (q2 + 2) HQ2.out)).but hb3 hR3 hq3 ha1); have HS3 := Lib.hid hs3; clear hb3 hR3 hs3) | (go_at_call 24; refine (HFO.out _ _ HR3.out HS3.out).mono ?_; rintro e w4 ⟨rfl, hb4⟩))
          exact ⟨rfl, rfl, HB3.out.trans hb4⟩
        | ok b =>
          have hlt := hlt b hF
          have hfs := hfs b hF ha1
          rw [hF] at HFO hE4
          have HE4 := Lib.hid (show T0 = skipF m j d b.2.1 b.2.2 from hE4)
          clear hpre hdrop hAne hA hF hFne hE4 hE3
          go_quiet ((go_at_call 39; exact (HP.out _).mono fun _ _ hh => ⟨hh.1, _, hh.2⟩))
          go_wp2_with (first | (go_at_call 23; refine (HSK.out _ (HR2.out.moved _ (q2 + 2) HQ2.out)).mono ?_; rintro e w3 ⟨⟨v3, rfl, q3, hq3, hR3, hs3⟩, hb3⟩; have HB3 := Lib.hid ((HB2.out.trans (but_moved _ _ _ _)).trans hb3); have HR3 := Lib.hid (((HR2.out.moved _ (q2 + 2) HQ2.out)).but hb3 hR3 hq3 ha1); have HS3 := Lib.hid hs3; clear hb3 hR3 hs3) | (go_at_call 24; refine (HFO.out _ _ HR3.out HS3.out).mono ?_; rintro e w4 ⟨⟨v4, rfl, hv4, q4, hq4, hR4, hs4⟩, hb4⟩; have HR4 := Lib.hid (HR3.out.but hb4 hR4 hq4 hfs); have HS4 := Lib.hid hs4; have HB4 := Lib.hid (HB3.out.trans hb4); clear hb4 hR4 hs4 hv4))
          have hs4 := HS4.out
          have hl4 := congrArg List.length hs4
          rw [sfx_length] at hl4
          have hsl := HSL.out
          have hq2 := HQ2.out
          refine ⟨⟨j, q4, b.2.1, by omega, HR4, Lib.hid (by rw [HE4.out, hs4]), HB4⟩, ?_⟩
          rw [HR4.out.at'.at, hR.out.at'.at]
          omega
end Go.Proofs.YtoiipdknamgcmaaGreatDoor

/- The reader's forms up to an end. -/
set_option linter.unusedVariables false
set_option linter.unusedSimpArgs false
namespace Go.Proofs.YtoiipdknamgcmaaGreatDoor
open Go.RowKit Go.Shelf
attribute [local go_sem] lt_succ_of

theorem sfx_of {s : ByteArray} {q : Nat} {x l : Bs} (h : x ++ l = sfx s q) : sfx s (s.size - l.length) = l := by
  have hl := congrArg List.length h
  rw [List.length_append, sfx_length] at hl
  by_cases hq : q ≤ s.size
  · have h2 : sfx s (s.size - l.length) = (sfx s q).drop x.length := by
      unfold sfx
      rw [List.drop_drop]
      congr 1
      omega
    rw [h2, ← h, List.drop_left]
  · have h0 : l.length = 0 := by omega
    rw [h0, sfx_end (by omega)]
    exact (List.length_eq_zero_iff.1 h0).symm
theorem spaceL_sfx : ∀ (l : Bs) (b : Bool), ∃ x, x ++ spaceL b l = l
  | [], b => ⟨[], by cases b <;> rfl⟩
  | c :: t, true => by
    rw [spaceL]
    split
    · obtain ⟨x, hx⟩ := spaceL_sfx t false
      exact ⟨c :: x, by rw [List.cons_append, hx]⟩
    · obtain ⟨x, hx⟩ := spaceL_sfx t true
      exact ⟨c :: x, by rw [List.cons_append, hx]⟩
  | c :: t, false => by
    rw [spaceL]
    split
    · obtain ⟨x, hx⟩ := spaceL_sfx t false
      exact ⟨c :: x, by rw [List.cons_append, hx]⟩
    split
    · obtain ⟨x, hx⟩ := spaceL_sfx t true
      exact ⟨c :: x, by rw [List.cons_append, hx]⟩
    · exact ⟨[], rfl⟩
theorem fourL_sfx (k : Nat) : ∀ (n a : Nat) (l : Bs) (p : Nat × Bs), fourL k n a l = .ok p → ∃ x, x ++ p.2 = l
  | 0, a, l, p, h => by simp only [fourL] at h; injection h with h; subst h; exact ⟨[], rfl⟩
  | n + 1, a, [], p, h => by simp [fourL] at h
  | n + 1, a, c :: t, p, h => by
    rw [fourL] at h
    split at h
    · cases h
    · obtain ⟨x, hx⟩ := fourL_sfx k n _ t p h
      exact ⟨c :: x, by rw [List.cons_append, hx]⟩
theorem escL_sfx (k : Nat) : ∀ (l : Bs) (p : Bs × Bs), escL k l = .ok p → ∃ x, x ++ p.2 = l
  | [], p, h => by cases h
  | c :: t, p, h => by
    rw [escL] at h
    split at h
    · injection h with h; subst h; exact ⟨[c], rfl⟩
    split at h
    · injection h with h; subst h; exact ⟨[c], rfl⟩
    split at h
    · injection h with h; subst h; exact ⟨[c], rfl⟩
    split at h
    · injection h with h; subst h; exact ⟨[c], rfl⟩
    split at h
    · obtain ⟨q, h1, h2⟩ := R.next_eq_ok h
      obtain ⟨x, hx⟩ := fourL_sfx k 4 0 t q h1
      split at h2
      · cases h2
      · injection h2 with h2; subst h2; exact ⟨c :: x, by rw [List.cons_append, hx]⟩
    · cases h
theorem textF_sfx : ∀ (n : Nat) (l : Bs) (p : Bs × Bs), textF n l = .ok p → ∃ x, x ++ p.2 = l
  | 0, l, p, h => by cases h
  | n + 1, [], p, h => by cases h
  | n + 1, c :: t, p, h => by
    rw [textF] at h
    split at h
    · injection h with h; subst h; exact ⟨[c], rfl⟩
    split at h
    · obtain ⟨a, h1, h2⟩ := R.next_eq_ok h
      obtain ⟨b, h3, h4⟩ := R.next_eq_ok h2
      obtain ⟨x, hx⟩ := escL_sfx _ _ _ h1
      obtain ⟨y, hy⟩ := textF_sfx n _ _ h3
      injection h4 with h4; subst h4
      exact ⟨c :: (x ++ y), by rw [List.cons_append, List.append_assoc, hy, hx]⟩
    · obtain ⟨b, h3, h4⟩ := R.next_eq_ok h
      obtain ⟨y, hy⟩ := textF_sfx n _ _ h3
      injection h4 with h4; subst h4
      exact ⟨c :: y, by rw [List.cons_append, hy]⟩
theorem tail_sfx (l : Bs) : ∃ x, x ++ l.tail = l := by
  cases l with
  | nil => exact ⟨[], rfl⟩
  | cons c t => exact ⟨[c], rfl⟩
theorem sfx_trans {a b c : Bs} (h1 : ∃ x, x ++ b = a) (h2 : ∃ y, y ++ c = b) : ∃ z, z ++ c = a := by
  obtain ⟨x, rfl⟩ := h1
  obtain ⟨y, rfl⟩ := h2
  exact ⟨x ++ y, List.append_assoc ..⟩
theorem drop_sfx (l : Bs) (n : Nat) : ∃ x, x ++ l.drop n = l := ⟨l.take n, List.take_append_drop n l⟩
mutual
theorem skipF_sfx (m : Bool) : ∀ (n d f : Nat) (l : Bs) (p : Nat × Bs), skipF m n d f l = .ok p → ∃ x, x ++ p.2 = l
  | 0, d, f, l, p, h => by rw [skipF] at h; cases h
  | n + 1, d, f, l, p, h => by
    rw [skipF] at h
    split at h
    · obtain ⟨a, h1, h2⟩ := R.next_eq_ok h
      obtain ⟨b, h3, h4⟩ := R.next_eq_ok h2
      exact sfx_trans (spaceL_sfx l false) (sfx_trans (drop_sfx _ 2) (sfx_trans (skipF_sfx m n _ _ _ _ h1) (sfx_trans (formF_sfx m n _ _ _ _ h3) (skipF_sfx m n _ _ _ _ h4))))
    · injection h with h; subst h; exact spaceL_sfx l false
theorem formF_sfx (m : Bool) : ∀ (n d f : Nat) (l : Bs) (p : V × Nat × Bs), formF m n d f l = .ok p → ∃ x, x ++ p.2.2 = l
  | 0, d, f, l, p, h => by rw [formF] at h; cases h
  | n + 1, d, f, [], p, h => by rw [formF] at h; cases h
  | n + 1, d, f, c :: t, p, h => by
    have hc : ∃ x, x ++ t = c :: t := ⟨[c], rfl⟩
    rw [formF] at h
    split at h; cases h
    split at h; cases h
    split at h; cases h
    split at h
    · obtain ⟨a, h1, h2⟩ := R.next_eq_ok h
      split at h2; cases h2
      injection h2 with h2; subst h2; exact sfx_trans hc (textF_sfx _ _ _ h1)
    split at h
    · obtain ⟨a, h1, h2⟩ := R.next_eq_ok h
      injection h2 with h2; subst h2; exact sfx_trans hc (sfx_trans (itemsF_sfx m n _ _ _ _ _ h1) (tail_sfx _))
    split at h
    · obtain ⟨a, h1, h2⟩ := R.next_eq_ok h
      injection h2 with h2; subst h2; exact sfx_trans hc (sfx_trans (itemsF_sfx m n _ _ _ _ _ h1) (tail_sfx _))
    split at h
    · obtain ⟨a, h1, h2⟩ := R.next_eq_ok h
      split at h2; cases h2
      obtain ⟨b, h3, h4⟩ := R.next_eq_ok h2
      injection h4 with h4; subst h4; exact sfx_trans hc (sfx_trans (itemsF_sfx m n _ _ _ _ _ h1) (tail_sfx _))
    split at h
    · split at h
      · obtain ⟨a, h1, h2⟩ := R.next_eq_ok h
        obtain ⟨b, h3, h4⟩ := R.next_eq_ok h2
        injection h4 with h4; subst h4; exact sfx_trans hc (sfx_trans (tail_sfx t) (sfx_trans (itemsF_sfx m n _ _ _ _ _ h1) (tail_sfx _)))
      · cases h
    obtain ⟨a, h1, h2⟩ := R.next_eq_ok h
    injection h2 with h2; subst h2; exact ⟨_, word_rest (c :: t)⟩
theorem itemsF_sfx (m : Bool) : ∀ (n : Nat) (e : UInt8) (d f : Nat) (l : Bs) (p : List V × Nat × Bs), itemsF m n e d f l = .ok p → ∃ x, x ++ p.2.2 = l
  | 0, e, d, f, l, p, h => by rw [itemsF] at h; cases h
  | n + 1, e, d, f, l, p, h => by
    rw [itemsF] at h
    obtain ⟨a, h1, h2⟩ := R.next_eq_ok h
    have k1 := skipF_sfx m n _ _ _ _ h1
    split at h2
    · injection h2 with h2; subst h2; exact k1
    obtain ⟨b, h3, h4⟩ := R.next_eq_ok h2
    obtain ⟨c, h5, h6⟩ := R.next_eq_ok h4
    have k2 := formF_sfx m n _ _ _ _ h3
    have k3 := itemsF_sfx m n _ _ _ _ _ h5
    injection h6 with h6; subst h6; exact sfx_trans k1 (sfx_trans k2 k3)
end
theorem Rdr.far {w w' : World} {rb B : Nat} {s : ByteArray} {p f : Nat} (h : Rdr w rb s p f) (hb : Below B w w') (hr : rb < B) : Rdr w' rb s p f :=
  ⟨h.at'.far hb hr, h.place, h.len, h.tabs.later hb (by have := h.big; omega), h.big, h.forms⟩
theorem But.after {M : Nat → Prop} {w w1 w2 : World} (h : But M w w1) (hb : Below w.heap.size w1 w2) : But M w w2 :=
  ⟨hb.os.trans h.os, hb.tape.trans h.tape, hb.output.trans h.output, Nat.le_trans h.size hb.size, fun k hk hm => (hb.block k hk).trans (h.block k hk hm)⟩
theorem own_drew {w : World} {B : Nat} {S : Nat → Prop} {l : List V} {v : Value} (h : OwnL w B S l v) (n : Nat) : OwnL (w.drewN n) B S l v := h.below (belowN _ _ _)
theorem own_but {w w' : World} {rb B : Nat} {l : List V} {v : Value} (h : OwnL w B (fun b => B ≤ b) l v) (hb : But (· = rb) w w') (hr : rb < B) : OwnL w' B (fun b => B ≤ b) l v :=
  h.keep (hb.keeps fun b hb e => by omega) fun k hk => hb.block k (h.own_lt k hk).2 (by have := (h.own_lt k hk).1; omega)
theorem own_lt {w : World} {B : Nat} {S : Nat → Prop} {l : List V} {v : Value} (h : OwnL w B S l v) : ∀ k, v.ownBlock = some k → k < w.heap.size := fun k hk => (h.own_lt k hk).2
/-- A value that lies in newer blocks than an own slice may be laid into it. -/
theorem own_vc {w : World} {B B2 n : Nat} {l : List V} {v : Value} {x : V} {A : Option Addr} {c : Nat} (h : OwnL w B (fun b => B ≤ b) l v) (hn : n ≤ B2) (ho : ∀ k, v.ownBlock = some k → k < n) (hb : V.Bd x) (hc : x.items.length ≤ c) (hA : LA w (fun b => B2 ≤ b) x.items A) (hB : B ≤ B2) :
    VC w (fun b => B ≤ b ∧ some b ≠ v.ownBlock) x [.int .i64 x.kind, .int .i64 x.num, .string x.text, .slice A x.items.length c] :=
  VC.mk hb hc (hA.keep (Keeps.weak fun b (h2 : B2 ≤ b) => ⟨by omega, fun e => by have := ho b e.symm; omega⟩))
set_option maxRecDepth 100000 in
set_option maxHeartbeats 8000000 in
theorem items_step (m : Bool) (n : Nat) (ih : AllAt m n) : ItemsAt m (n + 1) := by
  intro e d f p rb s w hr hd hout
  have hb := byteAt_eq s
  have HIH := Lib.hid ih
  have HR := Lib.hid hr
  have hs16 := hr.len
  have hrbw : rb < w.heap.size := hr.at'.lt
  obtain ⟨T0, hT0⟩ : ∃ T0, itemsF m (n + 1) e d f (sfx s p) = T0 := ⟨_, rfl⟩
  rw [hT0] at hout ⊢
  have HOUT := Lib.hid hout
  clear ih hout hr
  go_enter Tryz.func41, Tryz.ntmps41
  go_wp2_with fail
  go_loopw [7] (fun vo wr => ∃ (k q g : Nat) (L : List V) (A1 : Option Addr) (ca1 : Nat), k ≤ n + 1 ∧ vo = .slice A1 L.length ca1 ∧ L.length ≤ q ∧ Hid (OwnL wr w.heap.size (fun b => w.heap.size ≤ b) L (.slice A1 L.length ca1)) ∧ Hid (Rdr wr rb s q g) ∧ Hid (T0 = (itemsF m k e d g (sfx s q)).next fun r => .ok (L ++ r.1, r.2)) ∧ Hid (But (· = rb) w wr)) (fun _ wr => s.size - atOf wr rb)
  case atStart =>
    refine ⟨n + 1, p, f, [], none, 0, Nat.le_refl _, rfl, Nat.zero_le _, Lib.hid (OwnL.nil _ _ _), HR, Lib.hid ?_, Lib.hid (But.of (Below.refl _ _))⟩
    rw [← hT0]
    cases itemsF m (n + 1) e d f (sfx s p) with
    | out => rfl
    | bad er kk => rfl
    | ok a => rfl
  case round =>
    obtain ⟨k, q, g, L, A1, ca1, hk, rfl, hLq, hO, hR, hE, hB⟩ := hrel
    obtain ⟨j, rfl⟩ : ∃ j, k = j + 1 := by
      cases k with
      | zero => exact absurd (hE.out.trans (by rw [itemsF]; rfl)) HOUT.out
      | succ j => exact ⟨j, rfl⟩
    have hq16 : q ≤ s.size := hR.out.place
    have hE2 := hE.out
    rw [itemsF] at hE2
    have hAne : skipF m j d g (sfx s q) ≠ .out := R.next_in (R.next_in (by rw [← hE2]; exact HOUT.out))
    have HSK := Lib.hid ((HIH.out j (by omega)).1 d g q rb s wr hR.out hd hAne)
    clear hT0
    cases hA : skipF m j d g (sfx s q) with
    | out => exact absurd hA hAne
    | bad er kk =>
      rw [hA] at HSK hE2
      obtain rfl : T0 = .bad er kk := hE2
      clear hAne hA
      go_wp2_with (go_at_call 23; refine HSK.out.mono ?_; rintro e w2 ⟨rfl, hb2⟩)
      exact ⟨rfl, rfl, hB.out.trans hb2⟩
    | ok a =>
      have ha1 := skipF_forms m j d g _ a hA hR.out.forms
      have hal := skipF_le m j d g _ a hA
      have hsu : ∃ q2, q2 ≤ s.size ∧ sfx s q2 = a.2 := by
        obtain ⟨x, hx⟩ := skipF_sfx m j d g _ a hA
        exact ⟨s.size - a.2.length, by omega, sfx_of hx⟩
      obtain ⟨q2, hq2, hs2⟩ := hsu
      have HQU : Hid (∀ q', q' ≤ s.size → sfx s q' = a.2 → q' = q2) := Lib.hid fun q' h1 h2 => by
        have l1 := congrArg List.length h2
        have l2 := congrArg List.length hs2
        rw [sfx_length] at l1 l2
        omega
      have hqq : q ≤ q2 := by
        rw [← hs2, sfx_length, sfx_length] at hal
        omega
      rw [hA] at HSK hE2
      rw [R.next_ok, ← hs2] at hE2
      obtain ⟨E, hEE⟩ : ∃ E, e.toNat = E := ⟨_, rfl⟩
      rw [hEE]
      by_cases hhd : (sfx s q2).head? = some e
      · have hlt : q2 < s.size := by
          rcases Nat.lt_or_ge q2 s.size with h | h
          · exact h
          · rw [sfx_end h] at hhd; cases hhd
        have hbe : byteAt s q2 = E := by
          rw [sfx_cons hlt] at hhd
          injection hhd with hhd
          rw [← hb q2 hlt, hhd, hEE]
        rw [if_pos hhd, R.next_ok, List.append_nil] at hE2
        subst hE2
        have hj2 : decide ((q2 : Int) < (s.size : Int)) = true := decide_eq_true (by omega)
        have hj : (q2 : Int) < (s.size : Int) := by omega
        clear hAne hA hhd hs2
        go_wp2_with (go_at_call 23; refine HSK.out.mono ?_; rintro e w2 ⟨⟨v2, rfl, q2', hq2, hR2, hs2⟩, hb2⟩; obtain rfl : q2 = q2' := (HQU.out _ hq2 hs2).symm; have HR2 := Lib.hid (hR.out.but hb2 hR2 hq2 ha1); obtain ⟨c0, c1, c2, f1, f2⟩ := hR2.cells; have HB2 := Lib.hid (hB.out.trans hb2); have HO2 := Lib.hid (own_but hO.out hb2 hrbw); clear hb2 hR2 hs2)
        go_quiet (fail)
        go_wp2_with fail
        go_ret
        have hL32 : L.length ≤ 4294967296 := by omega
        exact ⟨⟨_, rfl, OwnL.is (own_drew HO2.out _) (fun _ h => h) (fun _ h => h) hL32, q2, HR2.out.place, HR2.out.at', rfl⟩, HB2.out.drewN _⟩
      rw [if_neg hhd] at hE2
      have hFne : formF m j d a.1 (sfx s q2) ≠ .out := R.next_in (R.next_in (by rw [← hE2]; exact HOUT.out))
      have hnb : q2 = s.size ∨ (q2 < s.size ∧ byteAt s q2 ≠ E) := by
        rcases Nat.lt_or_ge q2 s.size with h | h
        · refine .inr ⟨h, fun e2 => hhd ?_⟩
          rw [sfx_cons h]
          exact congrArg some (UInt8.toNat_inj.1 (by rw [hb q2 h, e2, hEE]))
        · exact .inl (by omega)
      have hlt := formF_lt m j d a.1 (sfx s q2)
      have hfs := formF_forms m j d a.1 (sfx s q2)
      have HFO := Lib.hid fun W (hW : Rdr W rb s q2 a.1) => (HIH.out j (by omega)).2.1 d a.1 q2 rb s W hW hd hFne
      have hS16 : L.length + 1 ≤ 4294967296 := by omega
      cases hF : formF m j d a.1 (sfx s q2) with
      | out => exact absurd hF hFne
      | bad er kk =>
        rw [hF] at HFO hE2
        obtain rfl : T0 = .bad er kk := hE2
        clear hAne hA hF hFne hlt hfs hs2 hhd hal
        rcases hnb with hnb | ⟨hnb, hbn⟩
        · have hj2 : decide ((q2 : Int) < (s.size : Int)) = false := decide_eq_false (by omega)
          have hj : ¬ ((q2 : Int) < (s.size : Int)) := by omega
          have hjn : ¬ q2 < s.size := by omega
          clear hnb
          go_wp2_with (go_at_call 23; refine HSK.out.mono ?_; rintro e w2 ⟨⟨v2, rfl, q2', hq2, hR2, hs2⟩, hb2⟩; obtain rfl : q2 = q2' := (HQU.out _ hq2 hs2).symm; have HR2 := Lib.hid (hR.out.but hb2 hR2 hq2 ha1); obtain ⟨c0, c1, c2, f1, f2⟩ := hR2.cells; have HB2 := Lib.hid (hB.out.trans hb2); have HO2 := Lib.hid (own_but hO.out hb2 hrbw); clear hb2 hR2 hs2)
          go_quiet (fail)
          go_wp2_with (go_at_call 24; refine (HFO.out _ (HR2.out.keep (belowN _ _ _))).mono ?_; rintro e w4 ⟨rfl, hb4⟩)
          exact ⟨rfl, rfl, (HB2.out.drewN _).trans hb4⟩
        · have hj2 : decide ((q2 : Int) < (s.size : Int)) = true := decide_eq_true (by omega)
          have hj : (q2 : Int) < (s.size : Int) := by omega
          obtain ⟨b2, hbyte⟩ : ∃ b2, byteAt s q2 = b2 := ⟨_, rfl⟩
          rw [hbyte] at hbn
          have hbq : ((b2 : Int) == (E : Int)) = false := by rw [beq_eq_false_iff_ne]; omega
          clear hbn
          go_wp2_with (go_at_call 23; refine HSK.out.mono ?_; rintro e w2 ⟨⟨v2, rfl, q2', hq2, hR2, hs2⟩, hb2⟩; obtain rfl : q2 = q2' := (HQU.out _ hq2 hs2).symm; have HR2 := Lib.hid (hR.out.but hb2 hR2 hq2 ha1); obtain ⟨c0, c1, c2, f1, f2⟩ := hR2.cells; have HB2 := Lib.hid (hB.out.trans hb2); have HO2 := Lib.hid (own_but hO.out hb2 hrbw); clear hb2 hR2 hs2)
          go_quiet (fail)
          go_wp2_with (go_at_call 24; refine (HFO.out _ (HR2.out.keep (belowN _ _ _))).mono ?_; rintro e w4 ⟨rfl, hb4⟩)
          exact ⟨rfl, rfl, (HB2.out.drewN _).trans hb4⟩
      | ok b =>
        have hlt := hlt b hF
        have hfs := hfs b hF ha1
        rw [hF] at HFO hE2
        rw [sfx_length] at hlt
        have HE4 := Lib.hid hE2
        clear hAne hA hF hFne hs2 hhd hal hE2
        rcases hnb with hnb | ⟨hnb, hbn⟩
        · omega
        · have hj2 : decide ((q2 : Int) < (s.size : Int)) = true := decide_eq_true (by omega)
          have hj : (q2 : Int) < (s.size : Int) := by omega
          obtain ⟨b2, hbyte⟩ : ∃ b2, byteAt s q2 = b2 := ⟨_, rfl⟩
          rw [hbyte] at hbn
          have hbq : ((b2 : Int) == (E : Int)) = false := by rw [beq_eq_false_iff_ne]; omega
          clear hbn
          go_wp2_with (go_at_call 23; refine HSK.out.mono ?_; rintro e w2 ⟨⟨v2, rfl, q2', hq2, hR2, hs2⟩, hb2⟩; obtain rfl : q2 = q2' := (HQU.out _ hq2 hs2).symm; have HR2 := Lib.hid (hR.out.but hb2 hR2 hq2 ha1); obtain ⟨c0, c1, c2, f1, f2⟩ := hR2.cells; have HB2 := Lib.hid (hB.out.trans hb2); have HO2 := Lib.hid (own_but hO.out hb2 hrbw); clear hb2 hR2 hs2)
          go_quiet (fail)
          go_wp2_with (first
            | (go_at_call 24; refine (HFO.out _ (HR2.out.keep (belowN _ _ _))).mono ?_; rintro e w4 ⟨⟨v4, rfl, hv4, q4, hq4, hR4, hs4⟩, hb4⟩; have hO4 := own_but (own_drew HO2.out _) hb4 hrbw; have HSZ := Lib.hid (show w.heap.size ≤ w4.heap.size from Nat.le_trans HB2.out.size hb4.size); have HR4 := Lib.hid ((HR2.out.keep (belowN _ _ _)).but hb4 hR4 hq4 hfs); have HS4 := Lib.hid hs4; have HB4 := Lib.hid ((HB2.out.drewN _).trans hb4); obtain ⟨hbd4, A4, c4, rfl, hc4, hA4⟩ := hv4.eq; have HV4 := Lib.hid (own_vc hO4 (show w2.heap.size ≤ w2.heap.size from Nat.le_refl _) (own_lt HO2.out) hbd4 hc4 hA4 (show w.heap.size ≤ w2.heap.size from HB2.out.size)); have HO4 := Lib.hid hO4; clear hb4 hR4 hs4 hv4 hO4 hA4)
            | (at_builtin; refine append_one w.heap.size (fun b => w.heap.size ≤ b) rfl _ _ rfl (.slice A1 L.length ca1) L b.1 _ _ _ _ rfl rfl HO4.out HV4.out HSZ.out (by omega) ?_; intro v1 w5 hO5 hg5; have HO5 := Lib.hid hO5; clear hO5))
          have hown := HO4.out
          have hbl5 : Below w.heap.size w4 w5 := (Below.refl _ _).grown hg5 HSZ.out (fun k hk => (OwnL.own_lt hown k hk).1)
          obtain ⟨A5, c5, rfl, _⟩ := OwnL.form HO5.out
          have hR5 := HR4.out.far hbl5 hrbw
          have hs4 := HS4.out
          have hl4 := congrArg List.length hs4
          rw [sfx_length] at hl4
          refine ⟨⟨j, q4, b.2.1, L ++ [b.1], A5, c5, by omega, rfl, by rw [List.length_append, List.length_singleton]; omega, HO5, Lib.hid hR5, Lib.hid ?_, Lib.hid (HB4.out.after hbl5)⟩, ?_⟩
          · rw [HE4.out, R.next_ok, hs4]
            cases itemsF m j e d b.2.1 b.2.2 with
            | out => rfl
            | bad er kk => rfl
            | ok r => simp [R.next, List.append_assoc]
          · rw [hR5.at'.at, hR.out.at'.at]
            omega
end Go.Proofs.YtoiipdknamgcmaaGreatDoor
