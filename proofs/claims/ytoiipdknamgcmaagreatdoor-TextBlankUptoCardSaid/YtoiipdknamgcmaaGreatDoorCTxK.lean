/- The reference's numbers. -/
import Derived.Laws.IdiomStrings
import Derived.Lib.ItoaLen
import Derived.Test.YtoiipdknamgcmaaGreatDoorCTxJ

set_option linter.unusedVariables false
set_option linter.unusedSimpArgs false
namespace Go.Proofs.YtoiipdknamgcmaaGreatDoor
open Go.RowKit Go.Shelf
attribute [local go_sem] lt_succ_of

/-- The last digit. -/
def digB (m : Nat) : UInt8 := UInt8.ofNat (48 + m % 10)
/-- The digits ahead of the last one. -/
def headD (m : Nat) : List UInt8 := if m < 10 then [] else Lib.decDigits (m / 10)
theorem headD_dec (m : Nat) : Lib.decDigits m = headD m ++ [digB m] := by
  unfold digB
  rw [Lib.decDigits, headD]
  by_cases h : m < 10
  · rw [dif_pos h, if_pos h, Nat.mod_eq_of_lt h]; rfl
  · rw [dif_neg h, if_neg h]
theorem headD_step {m : Nat} (h : 9 < m) : headD m = headD (m / 10) ++ [digB (m / 10)] := by
  rw [← headD_dec, headD, if_neg (by omega)]
theorem digit_run (W : World) (m : Nat) : (convert 41 9 (.slice (some ⟨W.heap.size, 0, none⟩) 1 1)).run Tryz.prog (W.alloc (.cells #[.int .u8 (48 + (m : Int) % 10)] 5)) = .ok (.string ⟨[digB m].toArray⟩) (W.alloc (.cells #[.int .u8 (48 + (m : Int) % 10)] 5)) := by
  refine run_convert_bytes_back (W.alloc (.cells #[.int .u8 (48 + (m : Int) % 10)] 5)) 41 9 5 ⟨W.heap.size, 0, none⟩ 1 [digB m] Tryz.underlying41 Tryz.underlying5 Tryz.underlying9 ?_
  intro j hj
  have hj0 : j = 0 := by simpa using hj
  subst hj0
  rw [plus0, World.cell?_alloc_mark]
  have h : (digB m).toNat = 48 + m % 10 := by unfold digB; simp; omega
  show some _ = some (Value.int .u8 ((digB m).toNat : Int))
  rw [h]
  simp
set_option maxRecDepth 100000 in
set_option maxHeartbeats 4000000 in
theorem num_calls (n : Int) (h0 : -9223372036854775808 ≤ n) (h1 : n ≤ 9223372036854775807) (w : World) :
    Calls Tryz.prog 33 #[.int .i64 n] w fun e w' => e = .returned (.string ⟨(Lib.itoa n).toArray⟩) ∧ Below w.heap.size w w' := by
  by_cases hneg : n < 0
  · obtain ⟨u, rfl⟩ : ∃ u : Nat, n = -(u : Int) := ⟨n.natAbs, by omega⟩
    have hu1 : 1 ≤ u := by omega
    have hw0 : IntKind.u64.wrap (-(u : Int)) = 18446744073709551616 - (u : Int) := by rw [IntKind.wrap_u64]; omega
    have hw1 : IntKind.u64.wrap (-(18446744073709551616 - (u : Int))) = (u : Int) := by rw [IntKind.wrap_u64]; omega
    have hng : decide (-(u : Int) < 0) = true := decide_eq_true (by omega)
    go_enter Tryz.func33, Tryz.ntmps33
    have HD := Lib.hid digit_run
    have hlen : (Lib.decDigits u).length ≤ 20 := by rw [Lib.decDigits_length]; exact Lib.nDigits_le20 u (by omega)
    obtain ⟨DU, hDU⟩ : ∃ DU, Lib.decDigits u = DU := ⟨_, rfl⟩
    have HU := Lib.hid hDU
    rw [hDU] at hlen
    have HRES : Hid ((Lib.itoa (-(u : Int))) = 45 :: DU) := Lib.hid (by rw [← hDU]; exact Lib.itoa_neg u hu1)
    rw [HRES.out]
    clear hDU
    go_wp2_with (first | simp only [HD.out])
    go_loopw [3, 4] (fun vm vs wr => ∃ (m : Nat) (o : ByteArray), vm = .int .u64 m ∧ vs = .string o ∧ m ≤ u ∧ Hid (DU = headD m ++ o.data.toList) ∧ Below w.heap.size w wr) (fun vm _ _ => (intOf vm).toNat)
    case atStart => exact ⟨u, _, rfl, rfl, Nat.le_refl _, Lib.hid (by rw [← HU.out, headD_dec]), (Below.refl _ _).alloc (Nat.le_refl _) _⟩
    case round =>
      obtain ⟨m, o, rfl, rfl, hmu, ho, hb⟩ := hrel
      have hos : o.size ≤ 20 := by
        have h1 := congrArg List.length ho.out
        rw [List.length_append] at h1
        have h2 : o.data.toList.length = o.size := rfl
        omega
      by_cases hm : 9 < m
      · have hj : (9 : Int) < (m : Int) := by omega
        have hjd : decide ((9 : Int) < (m : Int)) = true := decide_eq_true hj
        have HD2 : Hid (∀ W : World, (convert 41 9 (.slice (some ⟨W.heap.size, 0, none⟩) 1 1)).run Tryz.prog (W.alloc (.cells #[.int .u8 (48 + (m : Int) / 10 % 10)] 5)) = .ok (.string ⟨[digB (m / 10)].toArray⟩) (W.alloc (.cells #[.int .u8 (48 + (m : Int) / 10 % 10)] 5))) := Lib.hid fun W => digit_run W (m / 10)
        go_wp2_with (first | simp only [HD2.out])
        exact ⟨⟨m / 10, ⟨#[digB (m / 10)]⟩ ++ o, by simp, rfl, by omega, Lib.hid (by rw [ho.out, headD_step hm, List.append_assoc, data_app]), hb.alloc hb.size _⟩, by simp [intOf]; omega⟩
      · have hj : ¬ (9 : Int) < (m : Int) := by omega
        have hjd : decide ((9 : Int) < (m : Int)) = false := decide_eq_false hj
        have HO : Hid (o = ⟨DU.toArray⟩) := Lib.hid (ba_eq (by rw [ho.out, headD, if_pos (by omega)]; rfl))
        go_wp2_with fail
        go_ret
        exact ⟨by rw [show (⟨(45 :: DU).toArray⟩ : ByteArray) = ⟨#[45]⟩ ++ o from (ba_eq (by rw [data_app, HO.out]; rfl)).symm]; rfl, hb⟩
  · obtain ⟨u, rfl⟩ : ∃ u : Nat, n = (u : Int) := ⟨n.toNat, by omega⟩
    have hw0 : IntKind.u64.wrap (u : Int) = (u : Int) := IntWalk.u64_in _ (by omega)
    have hng : decide ((u : Int) < 0) = false := decide_eq_false (by omega)
    go_enter Tryz.func33, Tryz.ntmps33
    have HD := Lib.hid digit_run
    have hlen : (Lib.decDigits u).length ≤ 20 := by rw [Lib.decDigits_length]; exact Lib.nDigits_le20 u (by omega)
    obtain ⟨DU, hDU⟩ : ∃ DU, Lib.decDigits u = DU := ⟨_, rfl⟩
    have HU := Lib.hid hDU
    rw [hDU] at hlen
    have HRES : Hid ((Lib.itoa (u : Int)) = DU) := Lib.hid (by rw [← hDU]; exact Lib.itoa_nonneg u)
    rw [HRES.out]
    clear hDU
    go_wp2_with (first | simp only [HD.out])
    go_loopw [3, 4] (fun vm vs wr => ∃ (m : Nat) (o : ByteArray), vm = .int .u64 m ∧ vs = .string o ∧ m ≤ u ∧ Hid (DU = headD m ++ o.data.toList) ∧ Below w.heap.size w wr) (fun vm _ _ => (intOf vm).toNat)
    case atStart => exact ⟨u, _, rfl, rfl, Nat.le_refl _, Lib.hid (by rw [← HU.out, headD_dec]), (Below.refl _ _).alloc (Nat.le_refl _) _⟩
    case round =>
      obtain ⟨m, o, rfl, rfl, hmu, ho, hb⟩ := hrel
      have hos : o.size ≤ 20 := by
        have h1 := congrArg List.length ho.out
        rw [List.length_append] at h1
        have h2 : o.data.toList.length = o.size := rfl
        omega
      by_cases hm : 9 < m
      · have hj : (9 : Int) < (m : Int) := by omega
        have hjd : decide ((9 : Int) < (m : Int)) = true := decide_eq_true hj
        have HD2 : Hid (∀ W : World, (convert 41 9 (.slice (some ⟨W.heap.size, 0, none⟩) 1 1)).run Tryz.prog (W.alloc (.cells #[.int .u8 (48 + (m : Int) / 10 % 10)] 5)) = .ok (.string ⟨[digB (m / 10)].toArray⟩) (W.alloc (.cells #[.int .u8 (48 + (m : Int) / 10 % 10)] 5))) := Lib.hid fun W => digit_run W (m / 10)
        go_wp2_with (first | simp only [HD2.out])
        exact ⟨⟨m / 10, ⟨#[digB (m / 10)]⟩ ++ o, by simp, rfl, by omega, Lib.hid (by rw [ho.out, headD_step hm, List.append_assoc, data_app]), hb.alloc hb.size _⟩, by simp [intOf]; omega⟩
      · have hj : ¬ (9 : Int) < (m : Int) := by omega
        have hjd : decide ((9 : Int) < (m : Int)) = false := decide_eq_false hj
        have HO : Hid (o = ⟨DU.toArray⟩) := Lib.hid (ba_eq (by rw [ho.out, headD, if_pos (by omega)]; rfl))
        go_wp2_with fail
        go_ret
        exact ⟨by rw [← HO.out]; rfl, hb⟩
end Go.Proofs.YtoiipdknamgcmaaGreatDoor
