/- The reader's numbers. -/
import Derived.Test.YtoiipdknamgcmaaGreatDoorCRdB
import Derived.Test.YtoiipdknamgcmaaGreatDoorCTxF

set_option linter.unusedVariables false
set_option linter.unusedSimpArgs false
namespace Go.Proofs.YtoiipdknamgcmaaGreatDoor
open Go.RowKit Go.Shelf
attribute [local go_sem] lt_succ_of

def VarIs (n : String) (w : World) : Prop := ∃ tp p, w.var? Tryz.prog n = some #[.iface tp p]
theorem var_later {n : String} {g : Nat} (hg : Tryz.prog.globalNamed n = some g) {B : Nat} {w w' : World} (hb : Below B w w') (hlt : g < B) (h : VarIs n w) : VarIs n w' := by
  obtain ⟨tp, p, h⟩ := h
  refine ⟨tp, p, ?_⟩
  unfold World.var? at h ⊢
  rw [hg] at h ⊢
  simp only [Option.bind_some] at h ⊢
  rw [hb.block g hlt]
  exact h
theorem syn_named : Tryz.prog.globalNamed "strconv.ErrSyntax" = some 6 := by kernel_rfl
theorem ran_named : Tryz.prog.globalNamed "strconv.ErrRange" = some 7 := by kernel_rfl
/-- The variables that are read. -/
structure Tabs (w : World) : Prop where
  utf : Lib.Utf8Tabs 1 2 w
  pow : Pow10 w
  syn : VarIs "strconv.ErrSyntax" w
  ran : VarIs "strconv.ErrRange" w
  big : 8 ≤ w.heap.size
theorem utf_later {w w' : World} {B : Nat} (hb : Below B w w') (h8 : 8 ≤ B) (h : Lib.Utf8Tabs 1 2 w) : Lib.Utf8Tabs 1 2 w' := by
  have h1 : ∀ a v, a.block < B → w.cell? a = some v → w'.cell? a = some v := fun a v ha hc => (World.cell?_of_block (w := w) (hb.block a.block ha)).trans hc
  exact ⟨fun c hc => h1 _ _ (show 1 < B by omega) (h.1 c hc), fun i hi => ⟨h1 _ _ (show 2 < B by omega) (h.2 i hi).1, h1 _ _ (show 2 < B by omega) (h.2 i hi).2⟩⟩
theorem Tabs.later {w w' : World} {B : Nat} (h : Tabs w) (hb : Below B w w') (h8 : 8 ≤ B) : Tabs w' :=
  ⟨utf_later hb h8 h.utf, tab_later tab_named hb (by omega) h.pow, var_later syn_named hb (by omega) h.syn, var_later ran_named hb (by omega) h.ran, Nat.le_trans h.big hb.size⟩
/-- ParseInt in decimal digits: the number, or an error. -/
theorem parse_calls (s : ByteArray) (hs : s.size ≤ 65536) (w : World) (hT : Tabs w) :
    Calls Tryz.prog 91 #[.string s, .int .i64 10, .int .i64 64] w fun e w' => ((∃ n, Lib.parseIntB 64 s.data.toList = .ok n ∧ e = .returned (.tuple #[.int .i64 n, .nilIface])) ∨ ((∀ n, Lib.parseIntB 64 s.data.toList ≠ .ok n) ∧ ∃ n N, e = .returned (.tuple #[.int .i64 n, .iface 147 (.pointer (some ⟨N, 0, none⟩))]))) ∧ Below w.heap.size w w' := by
  obtain ⟨t1, p1, h1⟩ := hT.syn
  obtain ⟨t2, p2, h2⟩ := hT.ran
  cases h : Lib.parseIntB 64 s.data.toList with
  | ok n =>
    refine (Tryz.strconv_ParseInt_10_at64_ok s (by omega) n h w).mono ?_
    rintro e w' ⟨rfl, hw⟩
    refine ⟨.inl ⟨n, rfl, rfl⟩, ?_⟩
    rcases hw with rfl | ⟨t, rfl⟩
    · exact Below.refl _ _
    · exact ⟨rfl, rfl, rfl, by rw [Lib.bytesWorld_size]; omega, fun k hk => Lib.bytesWorld_at_old w _ t k (by omega)⟩
  | «syntax» =>
    refine (Tryz.strconv_ParseInt_10_at64_syntax_var s (by omega) h t1 p1 w h1).mono ?_
    rintro e w' ⟨N, rfl, _, _, hb⟩
    exact ⟨.inr ⟨(by intro n e; cases e), _, N, rfl⟩, hb⟩
  | range =>
    refine (Tryz.strconv_ParseInt_10_at64_range_var s (by omega) h t2 p2 w h2).mono ?_
    rintro e w' ⟨N, rfl, _, _, hb⟩
    exact ⟨.inr ⟨(by intro n e; cases e), _, N, rfl⟩, hb⟩
def V.num' (n : Int) : V := .mk 2 n ⟨#[]⟩ []
/-- What number says of a word. -/
def NumSays (r : Option (Option Int)) (fr : Nat) (e : Ending) : Prop := match r with
  | none => e = .returned .nilIface
  | some none => e = Pan 23 fr
  | some (some n) => e = .returned (.iface 24 (.agg #[.int .i64 2, .int .i64 n, .string ⟨#[]⟩, .slice none 0 0]))
set_option maxRecDepth 100000 in
set_option maxHeartbeats 4000000 in
theorem number_calls (rv : Value) (s : ByteArray) (fr : Nat) (w : World) (hs : s.size ≤ 65536) (h0 : s.size ≠ 0) (hT : Tabs w) :
    Calls Tryz.prog 60 #[rv, .string s, .int .i64 fr] w fun e w' => NumSays (numL s.data.toList) fr e ∧ Below w.heap.size w w' := by
  have hb := byteAt_eq s
  have hlt : 0 < s.size := by omega
  obtain ⟨b, hbb⟩ : ∃ b, byteAt s 0 = b := ⟨_, rfl⟩
  have hbt : s[0].toNat = b := (hb 0 hlt).trans hbb
  have hcons : s.data.toList = s[0] :: sfx s 1 := sfx_cons hlt
  have hs1 : (s.extract 1 s.size).data.toList = sfx s 1 := by
    rw [ByteArray.data_extract, Array.toList_extract, List.extract_eq_take_drop]
    exact List.take_of_length_le (by rw [List.length_drop]; exact Nat.le_refl _)
  have HP := Lib.hid (parse_calls s hs w hT)
  have hi0 : (0 : Int) < (s.size : Int) := by omega
  by_cases k43 : b = 43
  · subst k43
    obtain ⟨T, hTT⟩ : ∃ T, s.extract 1 s.size = T := ⟨_, rfl⟩
    have HD := Lib.hid (digits_calls T w (by rw [← hTT, ByteArray.size_extract]; omega))
    have hbare : bareL s.data.toList = T.data.toList := by
      rw [hcons, bareL, if_pos (.inl (UInt8.toNat_inj.1 hbt)), ← hTT, hs1]
    rw [← hbare] at HD
    unfold numL
    cases hd : digitsU (bareL s.data.toList) with
    | false =>
      rw [hd] at HD
      rw [if_neg (by decide)]
      clear hcons hs1
      go_enter Tryz.func60, Tryz.ntmps60
      go_wp2_with (first | (go_at_call 90; refine HD.out.mono ?_; rintro e w2 ⟨rfl, rfl⟩))
      go_ret
      exact ⟨rfl, Below.refl _ _⟩
    | true =>
      rw [hd] at HD
      rw [if_pos rfl]
      have hne : T.size ≠ 0 := by
        intro e
        have hz : T.data.toList = [] := List.length_eq_zero_iff.1 e
        rw [hbare, hz] at hd
        cases hd
      have hlt2 : 0 < T.size := by omega
      have hj0 : (0 : Int) < (T.size : Int) := by omega
      have hlen : (bareL s.data.toList).length = T.size := by rw [hbare]; rfl
      have hhead : (bareL s.data.toList).head? = some T[0] := by rw [hbare, show T.data.toList = T[0] :: sfx T 1 from sfx_cons hlt2]; rfl
      have hbT := byteAt_eq T
      obtain ⟨c, hcc⟩ : ∃ c, byteAt T 0 = c := ⟨_, rfl⟩
      have hct : T[0].toNat = c := (hbT 0 hlt2).trans hcc
      have h48 : (bareL s.data.toList).head? = some 48 ↔ c = 48 := by
        rw [hhead, Option.some.injEq]
        constructor
        · intro e; rw [e] at hct; exact hct.symm
        · intro e; exact UInt8.toNat_inj.1 (hct.trans e)
      rw [hlen]
      cases hp : Lib.parseIntB 64 s.data.toList with
      | «syntax» =>
        have HQ : Hid (Calls Tryz.prog 91 #[.string s, .int .i64 10, .int .i64 64] w fun e w' => (∃ n N, e = .returned (.tuple #[.int .i64 n, .iface 147 (.pointer (some ⟨N, 0, none⟩))])) ∧ Below w.heap.size w w') := Lib.hid (HP.out.mono fun e w' h => ⟨h.1.elim (fun ⟨n, h1, _⟩ => by rw [hp] at h1; cases h1) (fun h => h.2), h.2⟩)
        clear hcons hs1
        go_enter Tryz.func60, Tryz.ntmps60
        go_wp2_with (first | (go_at_call 90; refine HD.out.mono ?_; rintro e w2 ⟨rfl, rfl⟩) | (go_at_call 91; refine HQ.out.mono ?_; rintro e w2 ⟨⟨n, N, rfl⟩, hb2⟩) | (go_at_call 25; refine (fail_calls _ _ _ _).mono ?_; rintro e w3 ⟨rfl, rfl⟩))
        exact ⟨rfl, rfl, hb2⟩
      | range =>
        have HQ : Hid (Calls Tryz.prog 91 #[.string s, .int .i64 10, .int .i64 64] w fun e w' => (∃ n N, e = .returned (.tuple #[.int .i64 n, .iface 147 (.pointer (some ⟨N, 0, none⟩))])) ∧ Below w.heap.size w w') := Lib.hid (HP.out.mono fun e w' h => ⟨h.1.elim (fun ⟨n, h1, _⟩ => by rw [hp] at h1; cases h1) (fun h => h.2), h.2⟩)
        clear hcons hs1
        go_enter Tryz.func60, Tryz.ntmps60
        go_wp2_with (first | (go_at_call 90; refine HD.out.mono ?_; rintro e w2 ⟨rfl, rfl⟩) | (go_at_call 91; refine HQ.out.mono ?_; rintro e w2 ⟨⟨n, N, rfl⟩, hb2⟩) | (go_at_call 25; refine (fail_calls _ _ _ _).mono ?_; rintro e w3 ⟨rfl, rfl⟩))
        exact ⟨rfl, rfl, hb2⟩
      | ok n =>
        have HQ : Hid (Calls Tryz.prog 91 #[.string s, .int .i64 10, .int .i64 64] w fun e w' => e = .returned (.tuple #[.int .i64 n, .nilIface]) ∧ Below w.heap.size w w') := Lib.hid (HP.out.mono fun e w' h => ⟨h.1.elim (fun ⟨m, h1, h2⟩ => by rw [hp] at h1; injection h1 with h1; subst h1; exact h2) (fun h => absurd hp (h.1 n)), h.2⟩)
        dsimp only
        by_cases l19 : 19 < T.size
        · rw [if_pos (.inl l19)]
          have d19 : decide ((19 : Int) < (T.size : Int)) = true := decide_eq_true (by omega)
          clear hcons hs1
          go_enter Tryz.func60, Tryz.ntmps60
          go_wp2_with (first | (go_at_call 90; refine HD.out.mono ?_; rintro e w2 ⟨rfl, rfl⟩) | (go_at_call 91; refine HQ.out.mono ?_; rintro e w2 ⟨rfl, hb2⟩) | (go_at_call 25; refine (fail_calls _ _ _ _).mono ?_; rintro e w3 ⟨rfl, rfl⟩))
          exact ⟨rfl, rfl, hb2⟩
        have d19 : decide ((19 : Int) < (T.size : Int)) = false := decide_eq_false (by omega)
        by_cases l1 : 1 < T.size
        · have d1 : decide ((1 : Int) < (T.size : Int)) = true := decide_eq_true (by omega)
          by_cases c48 : c = 48
          · rw [if_pos (.inr ⟨l1, h48.2 c48⟩)]
            subst c48
            clear hcons hs1
            go_enter Tryz.func60, Tryz.ntmps60
            go_wp2_with (first | (go_at_call 90; refine HD.out.mono ?_; rintro e w2 ⟨rfl, rfl⟩) | (go_at_call 91; refine HQ.out.mono ?_; rintro e w2 ⟨rfl, hb2⟩) | (go_at_call 25; refine (fail_calls _ _ _ _).mono ?_; rintro e w3 ⟨rfl, rfl⟩))
            exact ⟨rfl, rfl, hb2⟩
          · rw [if_neg (by rintro (h | h); exact l19 h; exact c48 (h48.1 h.2))]
            have q48 : ((c : Int) == 48) = false := by rw [beq_eq_false_iff_ne]; omega
            clear hcons hs1
            go_enter Tryz.func60, Tryz.ntmps60
            go_wp2_with (first | (go_at_call 90; refine HD.out.mono ?_; rintro e w2 ⟨rfl, rfl⟩) | (go_at_call 91; refine HQ.out.mono ?_; rintro e w2 ⟨rfl, hb2⟩) | (go_at_call 25; refine (fail_calls _ _ _ _).mono ?_; rintro e w3 ⟨rfl, rfl⟩))
            go_ret
            exact ⟨rfl, hb2⟩
        · have d1 : decide ((1 : Int) < (T.size : Int)) = false := decide_eq_false (by omega)
          rw [if_neg (by rintro (h | h); exact l19 h; exact l1 h.1)]
          clear hcons hs1
          go_enter Tryz.func60, Tryz.ntmps60
          go_wp2_with (first | (go_at_call 90; refine HD.out.mono ?_; rintro e w2 ⟨rfl, rfl⟩) | (go_at_call 91; refine HQ.out.mono ?_; rintro e w2 ⟨rfl, hb2⟩) | (go_at_call 25; refine (fail_calls _ _ _ _).mono ?_; rintro e w3 ⟨rfl, rfl⟩))
          go_ret
          exact ⟨rfl, hb2⟩
  by_cases k45 : b = 45
  · subst k45
    obtain ⟨T, hTT⟩ : ∃ T, s.extract 1 s.size = T := ⟨_, rfl⟩
    have HD := Lib.hid (digits_calls T w (by rw [← hTT, ByteArray.size_extract]; omega))
    have hbare : bareL s.data.toList = T.data.toList := by
      rw [hcons, bareL, if_pos (.inr (UInt8.toNat_inj.1 hbt)), ← hTT, hs1]
    rw [← hbare] at HD
    unfold numL
    cases hd : digitsU (bareL s.data.toList) with
    | false =>
      rw [hd] at HD
      rw [if_neg (by decide)]
      clear hcons hs1
      go_enter Tryz.func60, Tryz.ntmps60
      go_wp2_with (first | (go_at_call 90; refine HD.out.mono ?_; rintro e w2 ⟨rfl, rfl⟩))
      go_ret
      exact ⟨rfl, Below.refl _ _⟩
    | true =>
      rw [hd] at HD
      rw [if_pos rfl]
      have hne : T.size ≠ 0 := by
        intro e
        have hz : T.data.toList = [] := List.length_eq_zero_iff.1 e
        rw [hbare, hz] at hd
        cases hd
      have hlt2 : 0 < T.size := by omega
      have hj0 : (0 : Int) < (T.size : Int) := by omega
      have hlen : (bareL s.data.toList).length = T.size := by rw [hbare]; rfl
      have hhead : (bareL s.data.toList).head? = some T[0] := by rw [hbare, show T.data.toList = T[0] :: sfx T 1 from sfx_cons hlt2]; rfl
      have hbT := byteAt_eq T
      obtain ⟨c, hcc⟩ : ∃ c, byteAt T 0 = c := ⟨_, rfl⟩
      have hct : T[0].toNat = c := (hbT 0 hlt2).trans hcc
      have h48 : (bareL s.data.toList).head? = some 48 ↔ c = 48 := by
        rw [hhead, Option.some.injEq]
        constructor
        · intro e; rw [e] at hct; exact hct.symm
        · intro e; exact UInt8.toNat_inj.1 (hct.trans e)
      rw [hlen]
      cases hp : Lib.parseIntB 64 s.data.toList with
      | «syntax» =>
        have HQ : Hid (Calls Tryz.prog 91 #[.string s, .int .i64 10, .int .i64 64] w fun e w' => (∃ n N, e = .returned (.tuple #[.int .i64 n, .iface 147 (.pointer (some ⟨N, 0, none⟩))])) ∧ Below w.heap.size w w') := Lib.hid (HP.out.mono fun e w' h => ⟨h.1.elim (fun ⟨n, h1, _⟩ => by rw [hp] at h1; cases h1) (fun h => h.2), h.2⟩)
        clear hcons hs1
        go_enter Tryz.func60, Tryz.ntmps60
        go_wp2_with (first | (go_at_call 90; refine HD.out.mono ?_; rintro e w2 ⟨rfl, rfl⟩) | (go_at_call 91; refine HQ.out.mono ?_; rintro e w2 ⟨⟨n, N, rfl⟩, hb2⟩) | (go_at_call 25; refine (fail_calls _ _ _ _).mono ?_; rintro e w3 ⟨rfl, rfl⟩))
        exact ⟨rfl, rfl, hb2⟩
      | range =>
        have HQ : Hid (Calls Tryz.prog 91 #[.string s, .int .i64 10, .int .i64 64] w fun e w' => (∃ n N, e = .returned (.tuple #[.int .i64 n, .iface 147 (.pointer (some ⟨N, 0, none⟩))])) ∧ Below w.heap.size w w') := Lib.hid (HP.out.mono fun e w' h => ⟨h.1.elim (fun ⟨n, h1, _⟩ => by rw [hp] at h1; cases h1) (fun h => h.2), h.2⟩)
        clear hcons hs1
        go_enter Tryz.func60, Tryz.ntmps60
        go_wp2_with (first | (go_at_call 90; refine HD.out.mono ?_; rintro e w2 ⟨rfl, rfl⟩) | (go_at_call 91; refine HQ.out.mono ?_; rintro e w2 ⟨⟨n, N, rfl⟩, hb2⟩) | (go_at_call 25; refine (fail_calls _ _ _ _).mono ?_; rintro e w3 ⟨rfl, rfl⟩))
        exact ⟨rfl, rfl, hb2⟩
      | ok n =>
        have HQ : Hid (Calls Tryz.prog 91 #[.string s, .int .i64 10, .int .i64 64] w fun e w' => e = .returned (.tuple #[.int .i64 n, .nilIface]) ∧ Below w.heap.size w w') := Lib.hid (HP.out.mono fun e w' h => ⟨h.1.elim (fun ⟨m, h1, h2⟩ => by rw [hp] at h1; injection h1 with h1; subst h1; exact h2) (fun h => absurd hp (h.1 n)), h.2⟩)
        dsimp only
        by_cases l19 : 19 < T.size
        · rw [if_pos (.inl l19)]
          have d19 : decide ((19 : Int) < (T.size : Int)) = true := decide_eq_true (by omega)
          clear hcons hs1
          go_enter Tryz.func60, Tryz.ntmps60
          go_wp2_with (first | (go_at_call 90; refine HD.out.mono ?_; rintro e w2 ⟨rfl, rfl⟩) | (go_at_call 91; refine HQ.out.mono ?_; rintro e w2 ⟨rfl, hb2⟩) | (go_at_call 25; refine (fail_calls _ _ _ _).mono ?_; rintro e w3 ⟨rfl, rfl⟩))
          exact ⟨rfl, rfl, hb2⟩
        have d19 : decide ((19 : Int) < (T.size : Int)) = false := decide_eq_false (by omega)
        by_cases l1 : 1 < T.size
        · have d1 : decide ((1 : Int) < (T.size : Int)) = true := decide_eq_true (by omega)
          by_cases c48 : c = 48
          · rw [if_pos (.inr ⟨l1, h48.2 c48⟩)]
            subst c48
            clear hcons hs1
            go_enter Tryz.func60, Tryz.ntmps60
            go_wp2_with (first | (go_at_call 90; refine HD.out.mono ?_; rintro e w2 ⟨rfl, rfl⟩) | (go_at_call 91; refine HQ.out.mono ?_; rintro e w2 ⟨rfl, hb2⟩) | (go_at_call 25; refine (fail_calls _ _ _ _).mono ?_; rintro e w3 ⟨rfl, rfl⟩))
            exact ⟨rfl, rfl, hb2⟩
          · rw [if_neg (by rintro (h | h); exact l19 h; exact c48 (h48.1 h.2))]
            have q48 : ((c : Int) == 48) = false := by rw [beq_eq_false_iff_ne]; omega
            clear hcons hs1
            go_enter Tryz.func60, Tryz.ntmps60
            go_wp2_with (first | (go_at_call 90; refine HD.out.mono ?_; rintro e w2 ⟨rfl, rfl⟩) | (go_at_call 91; refine HQ.out.mono ?_; rintro e w2 ⟨rfl, hb2⟩) | (go_at_call 25; refine (fail_calls _ _ _ _).mono ?_; rintro e w3 ⟨rfl, rfl⟩))
            go_ret
            exact ⟨rfl, hb2⟩
        · have d1 : decide ((1 : Int) < (T.size : Int)) = false := decide_eq_false (by omega)
          rw [if_neg (by rintro (h | h); exact l19 h; exact l1 h.1)]
          clear hcons hs1
          go_enter Tryz.func60, Tryz.ntmps60
          go_wp2_with (first | (go_at_call 90; refine HD.out.mono ?_; rintro e w2 ⟨rfl, rfl⟩) | (go_at_call 91; refine HQ.out.mono ?_; rintro e w2 ⟨rfl, hb2⟩) | (go_at_call 25; refine (fail_calls _ _ _ _).mono ?_; rintro e w3 ⟨rfl, rfl⟩))
          go_ret
          exact ⟨rfl, hb2⟩
  have e43 : ((b : Int) == 43) = false := by rw [beq_eq_false_iff_ne]; omega
  have e45 : ((b : Int) == 45) = false := by rw [beq_eq_false_iff_ne]; omega
  have HD := Lib.hid (digits_calls s w hs)
  have hbare : bareL s.data.toList = s.data.toList := by
    rw [hcons, bareL, if_neg]
    rintro (h | h) <;> rw [h] at hbt
    · exact k43 hbt.symm
    · exact k45 hbt.symm
  rw [← hbare] at HD
  unfold numL
  cases hd : digitsU (bareL s.data.toList) with
  | false =>
    rw [hd] at HD
    rw [if_neg (by decide)]
    clear hcons hs1
    go_enter Tryz.func60, Tryz.ntmps60
    go_wp2_with (first | (go_at_call 90; refine HD.out.mono ?_; rintro e w2 ⟨rfl, rfl⟩))
    go_ret
    exact ⟨rfl, Below.refl _ _⟩
  | true =>
    rw [hd] at HD
    rw [if_pos rfl]
    have hne : s.size ≠ 0 := by
      intro e
      have hz : s.data.toList = [] := List.length_eq_zero_iff.1 e
      rw [hbare, hz] at hd
      cases hd
    have hlt2 : 0 < s.size := by omega
    have hj0 : (0 : Int) < (s.size : Int) := by omega
    have hlen : (bareL s.data.toList).length = s.size := by rw [hbare]; rfl
    have hhead : (bareL s.data.toList).head? = some s[0] := by rw [hbare, show s.data.toList = s[0] :: sfx s 1 from sfx_cons hlt2]; rfl
    have hbT := byteAt_eq s
    obtain ⟨c, hcc⟩ : ∃ c, byteAt s 0 = c := ⟨_, rfl⟩
    have hct : s[0].toNat = c := (hbT 0 hlt2).trans hcc
    have h48 : (bareL s.data.toList).head? = some 48 ↔ c = 48 := by
      rw [hhead, Option.some.injEq]
      constructor
      · intro e; rw [e] at hct; exact hct.symm
      · intro e; exact UInt8.toNat_inj.1 (hct.trans e)
    rw [hlen]
    cases hp : Lib.parseIntB 64 s.data.toList with
    | «syntax» =>
      have HQ : Hid (Calls Tryz.prog 91 #[.string s, .int .i64 10, .int .i64 64] w fun e w' => (∃ n N, e = .returned (.tuple #[.int .i64 n, .iface 147 (.pointer (some ⟨N, 0, none⟩))])) ∧ Below w.heap.size w w') := Lib.hid (HP.out.mono fun e w' h => ⟨h.1.elim (fun ⟨n, h1, _⟩ => by rw [hp] at h1; cases h1) (fun h => h.2), h.2⟩)
      clear hcons hs1
      go_enter Tryz.func60, Tryz.ntmps60
      go_wp2_with (first | (go_at_call 90; refine HD.out.mono ?_; rintro e w2 ⟨rfl, rfl⟩) | (go_at_call 91; refine HQ.out.mono ?_; rintro e w2 ⟨⟨n, N, rfl⟩, hb2⟩) | (go_at_call 25; refine (fail_calls _ _ _ _).mono ?_; rintro e w3 ⟨rfl, rfl⟩))
      exact ⟨rfl, rfl, hb2⟩
    | range =>
      have HQ : Hid (Calls Tryz.prog 91 #[.string s, .int .i64 10, .int .i64 64] w fun e w' => (∃ n N, e = .returned (.tuple #[.int .i64 n, .iface 147 (.pointer (some ⟨N, 0, none⟩))])) ∧ Below w.heap.size w w') := Lib.hid (HP.out.mono fun e w' h => ⟨h.1.elim (fun ⟨n, h1, _⟩ => by rw [hp] at h1; cases h1) (fun h => h.2), h.2⟩)
      clear hcons hs1
      go_enter Tryz.func60, Tryz.ntmps60
      go_wp2_with (first | (go_at_call 90; refine HD.out.mono ?_; rintro e w2 ⟨rfl, rfl⟩) | (go_at_call 91; refine HQ.out.mono ?_; rintro e w2 ⟨⟨n, N, rfl⟩, hb2⟩) | (go_at_call 25; refine (fail_calls _ _ _ _).mono ?_; rintro e w3 ⟨rfl, rfl⟩))
      exact ⟨rfl, rfl, hb2⟩
    | ok n =>
      have HQ : Hid (Calls Tryz.prog 91 #[.string s, .int .i64 10, .int .i64 64] w fun e w' => e = .returned (.tuple #[.int .i64 n, .nilIface]) ∧ Below w.heap.size w w') := Lib.hid (HP.out.mono fun e w' h => ⟨h.1.elim (fun ⟨m, h1, h2⟩ => by rw [hp] at h1; injection h1 with h1; subst h1; exact h2) (fun h => absurd hp (h.1 n)), h.2⟩)
      dsimp only
      by_cases l19 : 19 < s.size
      · rw [if_pos (.inl l19)]
        have d19 : decide ((19 : Int) < (s.size : Int)) = true := decide_eq_true (by omega)
        clear hcons hs1
        go_enter Tryz.func60, Tryz.ntmps60
        go_wp2_with (first | (go_at_call 90; refine HD.out.mono ?_; rintro e w2 ⟨rfl, rfl⟩) | (go_at_call 91; refine HQ.out.mono ?_; rintro e w2 ⟨rfl, hb2⟩) | (go_at_call 25; refine (fail_calls _ _ _ _).mono ?_; rintro e w3 ⟨rfl, rfl⟩))
        exact ⟨rfl, rfl, hb2⟩
      have d19 : decide ((19 : Int) < (s.size : Int)) = false := decide_eq_false (by omega)
      by_cases l1 : 1 < s.size
      · have d1 : decide ((1 : Int) < (s.size : Int)) = true := decide_eq_true (by omega)
        by_cases c48 : c = 48
        · rw [if_pos (.inr ⟨l1, h48.2 c48⟩)]
          subst c48
          clear hcons hs1
          go_enter Tryz.func60, Tryz.ntmps60
          go_wp2_with (first | (go_at_call 90; refine HD.out.mono ?_; rintro e w2 ⟨rfl, rfl⟩) | (go_at_call 91; refine HQ.out.mono ?_; rintro e w2 ⟨rfl, hb2⟩) | (go_at_call 25; refine (fail_calls _ _ _ _).mono ?_; rintro e w3 ⟨rfl, rfl⟩))
          exact ⟨rfl, rfl, hb2⟩
        · rw [if_neg (by rintro (h | h); exact l19 h; exact c48 (h48.1 h.2))]
          have q48 : ((c : Int) == 48) = false := by rw [beq_eq_false_iff_ne]; omega
          clear hcons hs1
          go_enter Tryz.func60, Tryz.ntmps60
          go_wp2_with (first | (go_at_call 90; refine HD.out.mono ?_; rintro e w2 ⟨rfl, rfl⟩) | (go_at_call 91; refine HQ.out.mono ?_; rintro e w2 ⟨rfl, hb2⟩) | (go_at_call 25; refine (fail_calls _ _ _ _).mono ?_; rintro e w3 ⟨rfl, rfl⟩))
          go_ret
          exact ⟨rfl, hb2⟩
      · have d1 : decide ((1 : Int) < (s.size : Int)) = false := decide_eq_false (by omega)
        rw [if_neg (by rintro (h | h); exact l19 h; exact l1 h.1)]
        clear hcons hs1
        go_enter Tryz.func60, Tryz.ntmps60
        go_wp2_with (first | (go_at_call 90; refine HD.out.mono ?_; rintro e w2 ⟨rfl, rfl⟩) | (go_at_call 91; refine HQ.out.mono ?_; rintro e w2 ⟨rfl, hb2⟩) | (go_at_call 25; refine (fail_calls _ _ _ _).mono ?_; rintro e w3 ⟨rfl, rfl⟩))
        go_ret
        exact ⟨rfl, hb2⟩
end Go.Proofs.YtoiipdknamgcmaaGreatDoor
