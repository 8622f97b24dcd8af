/- The reference's quote. -/
import Derived.Test.YtoiipdknamgcmaaGreatDoorCTxG

set_option linter.unusedVariables false
set_option linter.unusedSimpArgs false
namespace Go.Proofs.YtoiipdknamgcmaaGreatDoor
open Go.RowKit Go.Shelf
attribute [local go_sem] lt_succ_of

theorem data_app (a b : ByteArray) : (a ++ b).data.toList = a.data.toList ++ b.data.toList := by simp
theorem data_one (s : ByteArray) (i : Nat) (h : i < s.size) : (s.extract i (i + 1)).data.toList = [s[i]] := by
  have h2 : i < s.data.toList.length := h
  rw [ByteArray.data_extract, Array.toList_extract, List.extract_eq_take_drop, Nat.add_sub_cancel_left, List.drop_eq_getElem_cons h2, List.take_succ_cons, List.take_zero]
  rfl
theorem size_one (s : ByteArray) (i : Nat) (h : i < s.size) : (s.extract i (i + 1)).size = 1 := by
  rw [ByteArray.size_extract]
  omega
theorem take_one (s : ByteArray) (i : Nat) (h : i < s.size) : s.data.toList.take (i + 1) = s.data.toList.take i ++ [s[i]] := by
  have h2 : i < s.data.toList.length := h
  rw [List.take_succ_eq_append_getElem h2]
  rfl
theorem ba_eq {a : ByteArray} {l : List UInt8} (h : a.data.toList = l) : a = ⟨l.toArray⟩ := by
  subst h
  cases a
  rfl
theorem escY_len (c : UInt8) : (escY c).length ≤ 6 := by
  unfold escY
  repeat' split
  all_goals simp
theorem escB_len (l : List UInt8) : (escB l).length ≤ 6 * l.length := by
  induction l with
  | nil => simp [escB]
  | cons c l ih =>
    have := escY_len c
    rw [show escB (c :: l) = escY c ++ escB l from rfl, List.length_append, List.length_cons]
    omega
theorem escB_one {s : ByteArray} {i b : Nat} (h : i < s.size) (hb : byteAt s i = b) (e : List UInt8) (he : escY (UInt8.ofNat b) = e) : escB [s[i]] = e := by
  have : s[i] = UInt8.ofNat b := by
    rw [← hb, ← byteAt_eq s i h]
    exact (UInt8.ofNat_toNat).symm
  rw [this]
  show escY _ ++ [] = e
  rw [List.append_nil, he]
theorem escY_plain {b : Nat} (h : b < 256) (h1 : b ≠ 34) (h2 : b ≠ 92) (h3 : 32 ≤ b) (h4 : b ≠ 127) : escY (UInt8.ofNat b) = [UInt8.ofNat b] := by
  have hn : (UInt8.ofNat b).toNat = b := by simp; omega
  have ne : ∀ k : UInt8, b ≠ k.toNat → UInt8.ofNat b ≠ k := by
    rintro k h rfl
    exact h hn.symm
  unfold escY
  rw [if_neg (by rintro (h | h); exact ne 34 h1 h; exact ne 92 h2 h), if_neg (ne 10 (by simp; omega)), if_neg (ne 9 (by simp; omega)), if_neg (ne 13 (by simp; omega)), if_neg (by rintro (h | h); have : (UInt8.ofNat b).toNat < 32 := h; omega; exact ne 127 h4 h)]
set_option maxRecDepth 100000 in
theorem hex_calls (n : Nat) (h : n < 16) (w : World) : Calls Tryz.prog 35 #[.int .u8 (n : Int)] w fun e w' => e = .returned (.string ⟨#[hexY (UInt8.ofNat n)]⟩) ∧ w = w' := by
  have hc : n = 0 ∨ n = 1 ∨ n = 2 ∨ n = 3 ∨ n = 4 ∨ n = 5 ∨ n = 6 ∨ n = 7 ∨ n = 8 ∨ n = 9 ∨ n = 10 ∨ n = 11 ∨ n = 12 ∨ n = 13 ∨ n = 14 ∨ n = 15 := by omega
  rcases hc with hc | hc | hc | hc | hc | hc | hc | hc | hc | hc | hc | hc | hc | hc | hc | hc
  all_goals
    subst hc
    clear h
    go_enter Tryz.func35, Tryz.ntmps35
    go_wp2_with fail
    go_ret
    exact ⟨rfl, rfl⟩
set_option maxRecDepth 100000 in
set_option maxHeartbeats 8000000 in
theorem rquote_calls (s : ByteArray) (hs : s.size ≤ 256) (w : World) :
    Calls Tryz.prog 19 #[.string s] w fun e w' => e = .returned (.string ⟨([34] ++ escB s.data.toList ++ [34]).toArray⟩) ∧ w = w' := by
  have hb := byteAt_eq s
  have HFIN : Hid (∀ o : ByteArray, o.data.toList = [34] ++ escB (s.data.toList.take s.size) → o ++ ⟨#[34]⟩ = ⟨([34] ++ escB s.data.toList ++ [34]).toArray⟩) := Lib.hid fun o ho => by
    apply ba_eq
    rw [data_app, ho, List.take_of_length_le (show s.data.toList.length ≤ s.size from Nat.le_refl _)]
  generalize hres : (⟨([34] ++ escB s.data.toList ++ [34]).toArray⟩ : ByteArray) = RES at HFIN ⊢
  clear hres
  go_enter Tryz.func19, Tryz.ntmps19
  go_wp2_with fail
  go_loopw [3, 4] (fun vo vi wr => ∃ (i : Nat) (o : ByteArray), vi = .int .i64 i ∧ vo = .string o ∧ i ≤ s.size ∧ Hid (o.data.toList = [34] ++ escB (s.data.toList.take i)) ∧ w = wr) (fun _ v _ => s.size - (intOf v).toNat)
  case atStart => exact ⟨0, _, rfl, rfl, by omega, Lib.hid rfl, rfl⟩
  case round =>
    obtain ⟨i, o, rfl, rfl, hi, ho, rfl⟩ := hrel
    have hos : o.size ≤ 2000 := by
      have h1 := congrArg List.length ho.out
      have h2 := escB_len (s.data.toList.take i)
      have h3 : o.data.toList.length = o.size := rfl
      rw [List.length_take] at h2
      rw [List.length_append, h3, List.length_singleton] at h1
      omega
    by_cases hlt : i < s.size
    · obtain ⟨b, hbb⟩ : ∃ b, byteAt s i = b := ⟨_, rfl⟩
      have hbl := byteAt_lt s i
      rw [hbb] at hbl
      have hx := size_one s i hlt
      have HNX : Hid (∀ (o' : ByteArray) (e : List UInt8), escY (UInt8.ofNat b) = e → o'.data.toList = o.data.toList ++ e → (∃ (i' : Nat) (o1 : ByteArray), Value.int .i64 (↑i + 1) = .int .i64 i' ∧ Value.string o' = .string o1 ∧ i' ≤ s.size ∧ Hid (o1.data.toList = [34] ++ escB (s.data.toList.take i')) ∧ True) ∧ s.size - (intOf (Value.int .i64 (↑i + 1))).toNat < s.size - (intOf (Value.int .i64 ↑i)).toNat) := Lib.hid fun o' e he ho' => by
        refine ⟨⟨i + 1, o', by simp, rfl, by omega, Lib.hid ?_, trivial⟩, by simp [intOf]; omega⟩
        rw [ho', ho.out, take_one s i hlt, escB_append, escB_one hlt hbb e he, List.append_assoc]
      by_cases h34 : b = 34
      · subst h34
        have HE := Lib.hid (data_one s i hlt)
        have HG : Hid (s[i] = 34) := Lib.hid (by have := hb i hlt; rw [hbb] at this; exact UInt8.toNat_inj.1 this)
        clear hbl
        go_wp2_with fail
        refine HNX.out _ [92, 34] (by decide) ?_
        rw [data_app, data_app, HE.out, HG.out, List.append_assoc]
        rfl
      by_cases h92 : b = 92
      · subst h92
        have HE := Lib.hid (data_one s i hlt)
        have HG : Hid (s[i] = 92) := Lib.hid (by have := hb i hlt; rw [hbb] at this; exact UInt8.toNat_inj.1 this)
        clear hbl
        go_wp2_with fail
        refine HNX.out _ [92, 92] (by decide) ?_
        rw [data_app, data_app, HE.out, HG.out, List.append_assoc]
        rfl
      by_cases h10 : b = 10
      · subst h10
        clear hbl
        go_wp2_with fail
        refine HNX.out _ [92, 110] (by decide) ?_
        rw [data_app]
      by_cases h9 : b = 9
      · subst h9
        clear hbl
        go_wp2_with fail
        refine HNX.out _ [92, 116] (by decide) ?_
        rw [data_app]
      by_cases h13 : b = 13
      · subst h13
        clear hbl
        go_wp2_with fail
        refine HNX.out _ [92, 114] (by decide) ?_
        rw [data_app]
      by_cases hlow : b < 32 ∨ b = 127
      · have hc : b = 0 ∨ b = 1 ∨ b = 2 ∨ b = 3 ∨ b = 4 ∨ b = 5 ∨ b = 6 ∨ b = 7 ∨ b = 8 ∨ b = 11 ∨ b = 12 ∨ b = 14 ∨ b = 15 ∨ b = 16 ∨ b = 17 ∨ b = 18 ∨ b = 19 ∨ b = 20 ∨ b = 21 ∨ b = 22 ∨ b = 23 ∨ b = 24 ∨ b = 25 ∨ b = 26 ∨ b = 27 ∨ b = 28 ∨ b = 29 ∨ b = 30 ∨ b = 31 ∨ b = 127 := by omega
        rcases hc with hc | hc | hc | hc | hc | hc | hc | hc | hc | hc | hc | hc | hc | hc | hc | hc | hc | hc | hc | hc | hc | hc | hc | hc | hc | hc | hc | hc | hc | hc
        all_goals
          subst hc
          clear hbl hlow h34 h92 h10 h9 h13
          go_wp2_with (go_at_call 35; refine (hex_calls _ (by decide) _).mono ?_; rintro e w' ⟨rfl, rfl⟩)
          refine HNX.out _ _ rfl ?_
          rw [data_app, data_app, data_app, List.append_assoc, List.append_assoc]
          rfl
      have q1 : ((b : Int) == 34) = false := by rw [beq_eq_false_iff_ne]; omega
      have q2 : ((b : Int) == 92) = false := by rw [beq_eq_false_iff_ne]; omega
      have q3 : ((b : Int) == 10) = false := by rw [beq_eq_false_iff_ne]; omega
      have q4 : ((b : Int) == 9) = false := by rw [beq_eq_false_iff_ne]; omega
      have q5 : ((b : Int) == 13) = false := by rw [beq_eq_false_iff_ne]; omega
      have q6 : ((b : Int) == 127) = false := by rw [beq_eq_false_iff_ne]; omega
      have q7 : decide ((b : Int) < 32) = false := decide_eq_false (by omega)
      have q8 : ¬ ((b : Int) < 32) := by omega
      have HE := Lib.hid (data_one s i hlt)
      have HG : Hid (s[i] = UInt8.ofNat b) := Lib.hid (by have := hb i hlt; rw [hbb] at this; rw [← this]; exact UInt8.ofNat_toNat.symm)
      have HP := Lib.hid (escY_plain hbl h34 h92 (by omega) (by omega))
      clear hbl hlow h34 h92 h10 h9 h13
      go_wp2_with fail
      refine HNX.out _ _ HP.out ?_
      rw [data_app, HE.out, HG.out]
    · have h2 : decide ((i : Int) < (s.size : Int)) = false := decide_eq_false (by omega)
      have h3 : ¬ ((i : Int) < (s.size : Int)) := by omega
      obtain rfl : i = s.size := by omega
      go_wp2_with fail
      go_ret
      exact ⟨by rw [HFIN.out _ ho.out]; rfl, rfl⟩
end Go.Proofs.YtoiipdknamgcmaaGreatDoor
