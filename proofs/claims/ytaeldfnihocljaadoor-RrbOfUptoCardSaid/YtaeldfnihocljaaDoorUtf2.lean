/- UTF-8: the reference's look at one letter, and at all. -/
import Derived.Test.YtaeldfnihocljaaDoorUtf
set_option linter.unusedVariables false
set_option linter.unusedSimpArgs false
namespace Go.Proofs.YtaeldfnihocljaaDoor
open Go.RowKit Go.Shelf

/-- How many bytes the letter at a place has; 0: it is none. -/
def refW (s : ByteArray) (p : Nat) : Int := if Utf8.decode s p = (65533, 1) then 0 else (Utf8.decode s p).2
def byteAt (s : ByteArray) (j : Nat) : Nat := (s.get! j).toNat
theorem byteAt_eq (s : ByteArray) (j : Nat) (h : j < s.size) : (s[j]'h).toNat = byteAt s j := by
  have := get_at s j h
  rw [Nat.add_zero] at this
  rw [byteAt, this]
theorem byteAt_lt (s : ByteArray) (j : Nat) : byteAt s j < 256 := UInt8.toNat_lt _
theorem decode_byteAt (s : ByteArray) (p : Nat) : Utf8.decode s p = Lib.decodeN (s.size - p) (byteAt s p) (byteAt s (p + 1)) (byteAt s (p + 2)) (byteAt s (p + 3)) := Lib.decode_at s p
theorem refW_of {s : ByteArray} {p n b0 b1 b2 b3 sz lo hi : Nat} (hS : Lib.slowN n b0 b1 b2 b3 sz lo hi = Utf8.decode s p) (h2 : 2 ≤ sz) (h4 : sz ≤ 4) :
    refW s p = if n < sz then 0 else if b1 < lo ∨ hi < b1 then 0 else if 2 < sz ∧ (b2 < 128 ∨ 191 < b2) then 0 else if 3 < sz ∧ (b3 < 128 ∨ 191 < b3) then 0 else (sz : Int) := by
  unfold refW
  rw [← hS]
  unfold Lib.slowN
  repeat' split
  all_goals first | rfl | (simp_all; done) | (exfalso; simp_all; omega) | (simp_all; omega)
theorem refW_ascii {s : ByteArray} {p : Nat} (h : byteAt s p < 128) : refW s p = 1 := by
  unfold refW
  rw [decode_byteAt]
  unfold Lib.decodeN
  rw [if_pos h]
  rw [if_neg (fun e => by injection e with e; omega)]
  rfl
theorem refW_bad {s : ByteArray} {p : Nat} (h : 128 ≤ byteAt s p) (h' : byteAt s p < 194 ∨ 244 < byteAt s p) : refW s p = 0 := by
  unfold refW
  have : Utf8.decode s p = (65533, 1) := by
    have b0 := byteAt_lt s p
    rw [decode_byteAt]
    unfold Lib.decodeN
    repeat' split
    all_goals first | rfl | (exfalso; omega)
  rw [if_pos this]

set_option maxHeartbeats 4000000 in
set_option maxRecDepth 100000 in
theorem refutf_calls (s : ByteArray) (p : Nat) (w : World) (hp : p < s.size) (hs : s.size ≤ 140737488355328) :
    Calls Tryd.prog 77 #[.string s, .int .i64 p] w fun e w' => e = .returned (.int .i64 (refW s p)) ∧ w = w' := by
  have hb := byteAt_eq s
  have hbp := byteAt_lt s p
  obtain ⟨b0, hb0⟩ : ∃ b0 : Nat, byteAt s p = b0 := ⟨_, rfl⟩
  rw [hb0] at hbp
  have hn : 1 ≤ s.size - p := by omega
  have l1 := byteAt_lt s (p + 1)
  have l2 := byteAt_lt s (p + 2)
  have l3 := byteAt_lt s (p + 3)
  by_cases h0 : b0 < 128
  · have H0 : Hid (refW s p = 1) := Lib.hid (refW_ascii (by omega))
    clear l1 l2 l3 hbp hn
    go_enter Tryd.func77, Tryd.ntmps77
    go_wp2_with fail
    go_ret
    exact ⟨ret_i H0.out.symm, rfl⟩
  · by_cases hbad : b0 < 194 ∨ 244 < b0
    · have H0 : Hid (refW s p = 0) := Lib.hid (refW_bad (by omega) (by omega))
      clear l1 l2 l3 hn
      rcases hbad with hbad | hbad
      all_goals
        go_enter Tryd.func77, Tryd.ntmps77
        go_wp2_with fail
        go_ret
        exact ⟨ret_i H0.out.symm, rfl⟩
    · have hd := decode_byteAt s p
      rw [hb0] at hd
      have cls : (194 ≤ b0 ∧ b0 < 224) ∨ b0 = 224 ∨ ((225 ≤ b0 ∧ b0 < 237) ∨ (238 ≤ b0 ∧ b0 < 240)) ∨ b0 = 237 ∨ b0 = 240 ∨ (241 ≤ b0 ∧ b0 < 244) ∨ b0 = 244 := by omega
      rcases cls with c | c | c | c | c | c | c
      · have HS := Lib.hid ((Lib.slow_C2 _ b0 _ _ _ hn l1 l2 l3 c).trans hd.symm)
        have e1 : ((b0 : Int) == 224) = false := by simp; omega
        have e2 : ((b0 : Int) == 237) = false := by simp; omega
        have e3 : ((b0 : Int) == 240) = false := by simp; omega
        have e4 : ((b0 : Int) == 244) = false := by simp; omega
        have C := Lib.hid c
        have cb : 194 ≤ b0 ∧ b0 ≤ 244 := by omega
        clear c
        have cn : b0 ≤ 223 := by have := C.out; omega
        clear hd hbp hbad h0
        go_enter Tryd.func77, Tryd.ntmps77
        go_wp2_with fail
        · go_ret
          exact ⟨ret_i (by rw [refW_of HS.out (by omega) (by omega)]; (repeat' split) <;> omega), rfl⟩
        · go_loop [9] (fun i => ∃ k : Nat, i = .int .i64 k ∧ 2 ≤ k ∧ k ≤ 2 ∧ (2 < k → 128 ≤ byteAt s (p + 2) ∧ byteAt s (p + 2) ≤ 191) ∧ (3 < k → 128 ≤ byteAt s (p + 3) ∧ byteAt s (p + 3) ≤ 191)) (fun i => 4 - (intOf i).toNat)
          case atStart => exact ⟨2, rfl, by omega, by omega, fun h => by omega, fun h => by omega⟩
          case round =>
            obtain ⟨k, rfl, hk2, hk4, hq2, hq3⟩ := hrel
            have HQ2 := Lib.hid hq2
            have HQ3 := Lib.hid hq3
            clear hq2 hq3
            obtain rfl : k = 2 := by omega
            go_wp2_with fail
            go_ret
            exact ⟨ret_i (by rw [refW_of HS.out (by omega) (by omega)]; (repeat' split) <;> omega), rfl⟩
        · go_ret
          exact ⟨ret_i (by rw [refW_of HS.out (by omega) (by omega)]; (repeat' split) <;> omega), rfl⟩
        · go_ret
          exact ⟨ret_i (by rw [refW_of HS.out (by omega) (by omega)]; (repeat' split) <;> omega), rfl⟩
      · have HS := Lib.hid ((Lib.slow_E0 _ b0 _ _ _ hn l1 l2 l3 c).trans hd.symm)
        have e1 : ((b0 : Int) == 224) = true := by simp; omega
        have e2 : ((b0 : Int) == 237) = false := by simp; omega
        have e3 : ((b0 : Int) == 240) = false := by simp; omega
        have e4 : ((b0 : Int) == 244) = false := by simp; omega
        have C := Lib.hid c
        have cb : 194 ≤ b0 ∧ b0 ≤ 244 := by omega
        clear c
        have cn : 224 ≤ b0 ∧ b0 ≤ 239 := by have := C.out; omega
        clear hd hbp hbad h0
        go_enter Tryd.func77, Tryd.ntmps77
        go_wp2_with fail
        · go_ret
          exact ⟨ret_i (by rw [refW_of HS.out (by omega) (by omega)]; (repeat' split) <;> omega), rfl⟩
        · go_loop [9] (fun i => ∃ k : Nat, i = .int .i64 k ∧ 2 ≤ k ∧ k ≤ 3 ∧ (2 < k → 128 ≤ byteAt s (p + 2) ∧ byteAt s (p + 2) ≤ 191) ∧ (3 < k → 128 ≤ byteAt s (p + 3) ∧ byteAt s (p + 3) ≤ 191)) (fun i => 4 - (intOf i).toNat)
          case atStart => exact ⟨2, rfl, by omega, by omega, fun h => by omega, fun h => by omega⟩
          case round =>
            obtain ⟨k, rfl, hk2, hk4, hq2, hq3⟩ := hrel
            have HQ2 := Lib.hid hq2
            have HQ3 := Lib.hid hq3
            clear hq2 hq3
            by_cases hlt : k < 3
            · have hkc : k = 2 := by omega
              subst hkc
              all_goals
                go_wp2_with fail
                · go_ret
                  exact ⟨ret_i (by rw [refW_of HS.out (by omega) (by omega)]; (repeat' split) <;> omega), rfl⟩
                · go_round
                  case rel => first | exact ⟨3, (by rfl), by omega, by omega, fun h => by have := HQ2.out; omega, fun h => by have := HQ2.out; have := HQ3.out; omega⟩ | exact ⟨4, (by rfl), by omega, by omega, fun h => by have := HQ2.out; omega, fun h => by have := HQ2.out; have := HQ3.out; omega⟩
                  case measure => first | (simp [intOf]; done) | (simp [intOf]; omega)
                · go_ret
                  exact ⟨ret_i (by rw [refW_of HS.out (by omega) (by omega)]; (repeat' split) <;> omega), rfl⟩
            · obtain rfl : k = 3 := by omega
              have hq2 := HQ2.out
              have hq3 := HQ3.out
              clear hlt
              go_wp2_with fail
              go_ret
              exact ⟨ret_i (by rw [refW_of HS.out (by omega) (by omega)]; (repeat' split) <;> omega), rfl⟩
        · go_ret
          exact ⟨ret_i (by rw [refW_of HS.out (by omega) (by omega)]; (repeat' split) <;> omega), rfl⟩
        · go_ret
          exact ⟨ret_i (by rw [refW_of HS.out (by omega) (by omega)]; (repeat' split) <;> omega), rfl⟩
      · have HS := Lib.hid ((Lib.slow_E1 _ b0 _ _ _ hn l1 l2 l3 c).trans hd.symm)
        have e1 : ((b0 : Int) == 224) = false := by simp; omega
        have e2 : ((b0 : Int) == 237) = false := by simp; omega
        have e3 : ((b0 : Int) == 240) = false := by simp; omega
        have e4 : ((b0 : Int) == 244) = false := by simp; omega
        have C := Lib.hid c
        have cb : 194 ≤ b0 ∧ b0 ≤ 244 := by omega
        clear c
        have cn : 224 ≤ b0 ∧ b0 ≤ 239 := by have := C.out; omega
        clear hd hbp hbad h0
        go_enter Tryd.func77, Tryd.ntmps77
        go_wp2_with fail
        · go_ret
          exact ⟨ret_i (by rw [refW_of HS.out (by omega) (by omega)]; (repeat' split) <;> omega), rfl⟩
        · go_loop [9] (fun i => ∃ k : Nat, i = .int .i64 k ∧ 2 ≤ k ∧ k ≤ 3 ∧ (2 < k → 128 ≤ byteAt s (p + 2) ∧ byteAt s (p + 2) ≤ 191) ∧ (3 < k → 128 ≤ byteAt s (p + 3) ∧ byteAt s (p + 3) ≤ 191)) (fun i => 4 - (intOf i).toNat)
          case atStart => exact ⟨2, rfl, by omega, by omega, fun h => by omega, fun h => by omega⟩
          case round =>
            obtain ⟨k, rfl, hk2, hk4, hq2, hq3⟩ := hrel
            have HQ2 := Lib.hid hq2
            have HQ3 := Lib.hid hq3
            clear hq2 hq3
            by_cases hlt : k < 3
            · have hkc : k = 2 := by omega
              subst hkc
              all_goals
                go_wp2_with fail
                · go_ret
                  exact ⟨ret_i (by rw [refW_of HS.out (by omega) (by omega)]; (repeat' split) <;> omega), rfl⟩
                · go_round
                  case rel => first | exact ⟨3, (by rfl), by omega, by omega, fun h => by have := HQ2.out; omega, fun h => by have := HQ2.out; have := HQ3.out; omega⟩ | exact ⟨4, (by rfl), by omega, by omega, fun h => by have := HQ2.out; omega, fun h => by have := HQ2.out; have := HQ3.out; omega⟩
                  case measure => first | (simp [intOf]; done) | (simp [intOf]; omega)
                · go_ret
                  exact ⟨ret_i (by rw [refW_of HS.out (by omega) (by omega)]; (repeat' split) <;> omega), rfl⟩
            · obtain rfl : k = 3 := by omega
              have hq2 := HQ2.out
              have hq3 := HQ3.out
              clear hlt
              go_wp2_with fail
              go_ret
              exact ⟨ret_i (by rw [refW_of HS.out (by omega) (by omega)]; (repeat' split) <;> omega), rfl⟩
        · go_ret
          exact ⟨ret_i (by rw [refW_of HS.out (by omega) (by omega)]; (repeat' split) <;> omega), rfl⟩
        · go_ret
          exact ⟨ret_i (by rw [refW_of HS.out (by omega) (by omega)]; (repeat' split) <;> omega), rfl⟩
      · have HS := Lib.hid ((Lib.slow_ED _ b0 _ _ _ hn l1 l2 l3 c).trans hd.symm)
        have e1 : ((b0 : Int) == 224) = false := by simp; omega
        have e2 : ((b0 : Int) == 237) = true := by simp; omega
        have e3 : ((b0 : Int) == 240) = false := by simp; omega
        have e4 : ((b0 : Int) == 244) = false := by simp; omega
        have C := Lib.hid c
        have cb : 194 ≤ b0 ∧ b0 ≤ 244 := by omega
        clear c
        have cn : 224 ≤ b0 ∧ b0 ≤ 239 := by have := C.out; omega
        clear hd hbp hbad h0
        go_enter Tryd.func77, Tryd.ntmps77
        go_wp2_with fail
        · go_ret
          exact ⟨ret_i (by rw [refW_of HS.out (by omega) (by omega)]; (repeat' split) <;> omega), rfl⟩
        · go_loop [9] (fun i => ∃ k : Nat, i = .int .i64 k ∧ 2 ≤ k ∧ k ≤ 3 ∧ (2 < k → 128 ≤ byteAt s (p + 2) ∧ byteAt s (p + 2) ≤ 191) ∧ (3 < k → 128 ≤ byteAt s (p + 3) ∧ byteAt s (p + 3) ≤ 191)) (fun i => 4 - (intOf i).toNat)
          case atStart => exact ⟨2, rfl, by omega, by omega, fun h => by omega, fun h => by omega⟩
          case round =>
            obtain ⟨k, rfl, hk2, hk4, hq2, hq3⟩ := hrel
            have HQ2 := Lib.hid hq2
            have HQ3 := Lib.hid hq3
            clear hq2 hq3
            by_cases hlt : k < 3
            · have hkc : k = 2 := by omega
              subst hkc
              all_goals
                go_wp2_with fail
                · go_ret
                  exact ⟨ret_i (by rw [refW_of HS.out (by omega) (by omega)]; (repeat' split) <;> omega), rfl⟩
                · go_round
                  case rel => first | exact ⟨3, (by rfl), by omega, by omega, fun h => by have := HQ2.out; omega, fun h => by have := HQ2.out; have := HQ3.out; omega⟩ | exact ⟨4, (by rfl), by omega, by omega, fun h => by have := HQ2.out; omega, fun h => by have := HQ2.out; have := HQ3.out; omega⟩
                  case measure => first | (simp [intOf]; done) | (simp [intOf]; omega)
                · go_ret
                  exact ⟨ret_i (by rw [refW_of HS.out (by omega) (by omega)]; (repeat' split) <;> omega), rfl⟩
            · obtain rfl : k = 3 := by omega
              have hq2 := HQ2.out
              have hq3 := HQ3.out
              clear hlt
              go_wp2_with fail
              go_ret
              exact ⟨ret_i (by rw [refW_of HS.out (by omega) (by omega)]; (repeat' split) <;> omega), rfl⟩
        · go_ret
          exact ⟨ret_i (by rw [refW_of HS.out (by omega) (by omega)]; (repeat' split) <;> omega), rfl⟩
        · go_ret
          exact ⟨ret_i (by rw [refW_of HS.out (by omega) (by omega)]; (repeat' split) <;> omega), rfl⟩
      · have HS := Lib.hid ((Lib.slow_F0 _ b0 _ _ _ hn l1 l2 l3 c).trans hd.symm)
        have e1 : ((b0 : Int) == 224) = false := by simp; omega
        have e2 : ((b0 : Int) == 237) = false := by simp; omega
        have e3 : ((b0 : Int) == 240) = true := by simp; omega
        have e4 : ((b0 : Int) == 244) = false := by simp; omega
        have C := Lib.hid c
        have cb : 194 ≤ b0 ∧ b0 ≤ 244 := by omega
        clear c
        have cn : 240 ≤ b0 := by have := C.out; omega
        clear hd hbp hbad h0
        go_enter Tryd.func77, Tryd.ntmps77
        go_wp2_with fail
        · go_ret
          exact ⟨ret_i (by rw [refW_of HS.out (by omega) (by omega)]; (repeat' split) <;> omega), rfl⟩
        · go_loop [9] (fun i => ∃ k : Nat, i = .int .i64 k ∧ 2 ≤ k ∧ k ≤ 4 ∧ (2 < k → 128 ≤ byteAt s (p + 2) ∧ byteAt s (p + 2) ≤ 191) ∧ (3 < k → 128 ≤ byteAt s (p + 3) ∧ byteAt s (p + 3) ≤ 191)) (fun i => 4 - (intOf i).toNat)
          case atStart => exact ⟨2, rfl, by omega, by omega, fun h => by omega, fun h => by omega⟩
          case round =>
            obtain ⟨k, rfl, hk2, hk4, hq2, hq3⟩ := hrel
            have HQ2 := Lib.hid hq2
            have HQ3 := Lib.hid hq3
            clear hq2 hq3
            by_cases hlt : k < 4
            · have hkc : k = 2 ∨ k = 3 := by omega
              rcases hkc with rfl | rfl
              all_goals
                go_wp2_with fail
                · go_ret
                  exact ⟨ret_i (by rw [refW_of HS.out (by omega) (by omega)]; (repeat' split) <;> omega), rfl⟩
                · go_round
                  case rel => first | exact ⟨3, (by rfl), by omega, by omega, fun h => by have := HQ2.out; omega, fun h => by have := HQ2.out; have := HQ3.out; omega⟩ | exact ⟨4, (by rfl), by omega, by omega, fun h => by have := HQ2.out; omega, fun h => by have := HQ2.out; have := HQ3.out; omega⟩
                  case measure => first | (simp [intOf]; done) | (simp [intOf]; omega)
                · go_ret
                  exact ⟨ret_i (by rw [refW_of HS.out (by omega) (by omega)]; (repeat' split) <;> omega), rfl⟩
            · obtain rfl : k = 4 := by omega
              have hq2 := HQ2.out
              have hq3 := HQ3.out
              clear hlt
              go_wp2_with fail
              go_ret
              exact ⟨ret_i (by rw [refW_of HS.out (by omega) (by omega)]; (repeat' split) <;> omega), rfl⟩
        · go_ret
          exact ⟨ret_i (by rw [refW_of HS.out (by omega) (by omega)]; (repeat' split) <;> omega), rfl⟩
        · go_ret
          exact ⟨ret_i (by rw [refW_of HS.out (by omega) (by omega)]; (repeat' split) <;> omega), rfl⟩
      · have HS := Lib.hid ((Lib.slow_F1 _ b0 _ _ _ hn l1 l2 l3 c).trans hd.symm)
        have e1 : ((b0 : Int) == 224) = false := by simp; omega
        have e2 : ((b0 : Int) == 237) = false := by simp; omega
        have e3 : ((b0 : Int) == 240) = false := by simp; omega
        have e4 : ((b0 : Int) == 244) = false := by simp; omega
        have C := Lib.hid c
        have cb : 194 ≤ b0 ∧ b0 ≤ 244 := by omega
        clear c
        have cn : 240 ≤ b0 := by have := C.out; omega
        clear hd hbp hbad h0
        go_enter Tryd.func77, Tryd.ntmps77
        go_wp2_with fail
        · go_ret
          exact ⟨ret_i (by rw [refW_of HS.out (by omega) (by omega)]; (repeat' split) <;> omega), rfl⟩
        · go_loop [9] (fun i => ∃ k : Nat, i = .int .i64 k ∧ 2 ≤ k ∧ k ≤ 4 ∧ (2 < k → 128 ≤ byteAt s (p + 2) ∧ byteAt s (p + 2) ≤ 191) ∧ (3 < k → 128 ≤ byteAt s (p + 3) ∧ byteAt s (p + 3) ≤ 191)) (fun i => 4 - (intOf i).toNat)
          case atStart => exact ⟨2, rfl, by omega, by omega, fun h => by omega, fun h => by omega⟩
          case round =>
            obtain ⟨k, rfl, hk2, hk4, hq2, hq3⟩ := hrel
            have HQ2 := Lib.hid hq2
            have HQ3 := Lib.hid hq3
            clear hq2 hq3
            by_cases hlt : k < 4
            · have hkc : k = 2 ∨ k = 3 := by omega
              rcases hkc with rfl | rfl
              all_goals
                go_wp2_with fail
                · go_ret
                  exact ⟨ret_i (by rw [refW_of HS.out (by omega) (by omega)]; (repeat' split) <;> omega), rfl⟩
                · go_round
                  case rel => first | exact ⟨3, (by rfl), by omega, by omega, fun h => by have := HQ2.out; omega, fun h => by have := HQ2.out; have := HQ3.out; omega⟩ | exact ⟨4, (by rfl), by omega, by omega, fun h => by have := HQ2.out; omega, fun h => by have := HQ2.out; have := HQ3.out; omega⟩
                  case measure => first | (simp [intOf]; done) | (simp [intOf]; omega)
                · go_ret
                  exact ⟨ret_i (by rw [refW_of HS.out (by omega) (by omega)]; (repeat' split) <;> omega), rfl⟩
            · obtain rfl : k = 4 := by omega
              have hq2 := HQ2.out
              have hq3 := HQ3.out
              clear hlt
              go_wp2_with fail
              go_ret
              exact ⟨ret_i (by rw [refW_of HS.out (by omega) (by omega)]; (repeat' split) <;> omega), rfl⟩
        · go_ret
          exact ⟨ret_i (by rw [refW_of HS.out (by omega) (by omega)]; (repeat' split) <;> omega), rfl⟩
        · go_ret
          exact ⟨ret_i (by rw [refW_of HS.out (by omega) (by omega)]; (repeat' split) <;> omega), rfl⟩
      · have HS := Lib.hid ((Lib.slow_F4 _ b0 _ _ _ hn l1 l2 l3 c).trans hd.symm)
        have e1 : ((b0 : Int) == 224) = false := by simp; omega
        have e2 : ((b0 : Int) == 237) = false := by simp; omega
        have e3 : ((b0 : Int) == 240) = false := by simp; omega
        have e4 : ((b0 : Int) == 244) = true := by simp; omega
        have C := Lib.hid c
        have cb : 194 ≤ b0 ∧ b0 ≤ 244 := by omega
        clear c
        have cn : 240 ≤ b0 := by have := C.out; omega
        clear hd hbp hbad h0
        go_enter Tryd.func77, Tryd.ntmps77
        go_wp2_with fail
        · go_ret
          exact ⟨ret_i (by rw [refW_of HS.out (by omega) (by omega)]; (repeat' split) <;> omega), rfl⟩
        · go_loop [9] (fun i => ∃ k : Nat, i = .int .i64 k ∧ 2 ≤ k ∧ k ≤ 4 ∧ (2 < k → 128 ≤ byteAt s (p + 2) ∧ byteAt s (p + 2) ≤ 191) ∧ (3 < k → 128 ≤ byteAt s (p + 3) ∧ byteAt s (p + 3) ≤ 191)) (fun i => 4 - (intOf i).toNat)
          case atStart => exact ⟨2, rfl, by omega, by omega, fun h => by omega, fun h => by omega⟩
          case round =>
            obtain ⟨k, rfl, hk2, hk4, hq2, hq3⟩ := hrel
            have HQ2 := Lib.hid hq2
            have HQ3 := Lib.hid hq3
            clear hq2 hq3
            by_cases hlt : k < 4
            · have hkc : k = 2 ∨ k = 3 := by omega
              rcases hkc with rfl | rfl
              all_goals
                go_wp2_with fail
                · go_ret
                  exact ⟨ret_i (by rw [refW_of HS.out (by omega) (by omega)]; (repeat' split) <;> omega), rfl⟩
                · go_round
                  case rel => first | exact ⟨3, (by rfl), by omega, by omega, fun h => by have := HQ2.out; omega, fun h => by have := HQ2.out; have := HQ3.out; omega⟩ | exact ⟨4, (by rfl), by omega, by omega, fun h => by have := HQ2.out; omega, fun h => by have := HQ2.out; have := HQ3.out; omega⟩
                  case measure => first | (simp [intOf]; done) | (simp [intOf]; omega)
                · go_ret
                  exact ⟨ret_i (by rw [refW_of HS.out (by omega) (by omega)]; (repeat' split) <;> omega), rfl⟩
            · obtain rfl : k = 4 := by omega
              have hq2 := HQ2.out
              have hq3 := HQ3.out
              clear hlt
              go_wp2_with fail
              go_ret
              exact ⟨ret_i (by rw [refW_of HS.out (by omega) (by omega)]; (repeat' split) <;> omega), rfl⟩
        · go_ret
          exact ⟨ret_i (by rw [refW_of HS.out (by omega) (by omega)]; (repeat' split) <;> omega), rfl⟩
        · go_ret
          exact ⟨ret_i (by rw [refW_of HS.out (by omega) (by omega)]; (repeat' split) <;> omega), rfl⟩
end Go.Proofs.YtaeldfnihocljaaDoor
