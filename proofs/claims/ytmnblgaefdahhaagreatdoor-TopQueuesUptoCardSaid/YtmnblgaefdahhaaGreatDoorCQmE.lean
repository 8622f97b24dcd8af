/- A text's units of 16 bits. -/
import Derived.Test.YtmnblgaefdahhaaGreatDoorCQmD

set_option linter.unusedVariables false
set_option linter.unusedSimpArgs false
namespace Go.Proofs.YtmnblgaefdahhaaGreatDoor
open Go.RowKit Go.Shelf
attribute [local go_sem] lt_succ_of

/-- The two units of a letter behind the first plane. -/
def unitA (r : Int) : Int := IntKind.u16.wrap (bits .or .i32 55296 ((r - 65536) / 1024))
def unitB (r : Int) : Int := IntKind.u16.wrap (bits .or .i32 56320 (bits .and .i32 (r - 65536) 1023))
def unitC (r : Int) : List Int := if 65535 < r then [unitA r, unitB r] else [r]
theorem wrap16 (x : Int) : 0 ≤ IntKind.u16.wrap x ∧ IntKind.u16.wrap x < 65536 := by
  simp only [IntKind.wrap, IntKind.bits, IntKind.signed]
  constructor
  · exact Int.emod_nonneg _ (by decide)
  · exact Int.emod_lt_of_pos _ (by decide)
theorem unitC_range {r : Int} (h : 0 ≤ r) : ∀ x ∈ unitC r, 0 ≤ x ∧ x < 65536 := by
  unfold unitC
  split
  · intro x hx
    simp only [List.mem_cons, List.not_mem_nil, or_false] at hx
    rcases hx with rfl | rfl
    · exact wrap16 _
    · exact wrap16 _
  · intro x hx
    simp only [List.mem_cons, List.not_mem_nil, or_false] at hx
    subst hx
    omega
theorem unitC_len (r : Int) : (unitC r).length ≤ 2 := by
  unfold unitC
  split <;> simp
def unitsF (s : ByteArray) (pos : Nat) : List Int :=
  if h : pos < s.size then unitC (Utf8.decode s pos).1 ++ unitsF s (pos + (Utf8.decode s pos).2) else []
termination_by s.size - pos
decreasing_by have := Lib.decode_width_pos s pos h; omega
theorem unitsF_end {s : ByteArray} {pos : Nat} (h : ¬ pos < s.size) : unitsF s pos = [] := by rw [unitsF, dif_neg h]
theorem unitsF_next {s : ByteArray} {pos : Nat} (h : pos < s.size) : unitsF s pos = unitC (Utf8.decode s pos).1 ++ unitsF s (pos + (Utf8.decode s pos).2) := by rw [unitsF, dif_pos h]
theorem unitsF_range (s : ByteArray) : ∀ (n pos : Nat), s.size - pos ≤ n → ∀ x ∈ unitsF s pos, 0 ≤ x ∧ x < 65536
  | 0, pos, h => by rw [unitsF_end (by omega)]; intro x hx; cases hx
  | n + 1, pos, h => by
    by_cases hp : pos < s.size
    · rw [unitsF_next hp]
      intro x hx
      rcases List.mem_append.1 hx with hx | hx
      · exact unitC_range (Int.natCast_nonneg _) x hx
      · have := Lib.decode_width_pos s pos hp
        exact unitsF_range s n _ (by omega) x hx
    · rw [unitsF_end hp]; intro x hx; cases hx
theorem wid_le (s : ByteArray) (p : Nat) : (Utf8.decode s p).2 ≤ 4 := by
  rw [Lib.decode_at]
  unfold Lib.decodeN
  repeat' split
  all_goals simp
/-- The state of the round at a place. -/
def UI (I : Nat) (s : ByteArray) (w wr : World) (pos : Nat) (v : Value) : Prop := wr.heap[I]? = some (.stringIter s pos) ∧ pos ≤ s.size + 4 ∧ ∃ dn, dn.length ≤ 2 * pos ∧ dn ++ unitsF s pos = unitsF s 0 ∧ OwnX 154 eH wr (I + 1) dn v ∧ Bd w wr ∧ I < wr.heap.size
theorem UI.pos {I : Nat} {s : ByteArray} {w w' : World} {p : Nat} {v : Value} (h : UI I s w w' p v) : w'.iterPos I = p := by simp [World.iterPos, h.1]
theorem UI.next {I : Nat} {s : ByteArray} {dn cs : List Int} {w w2 w' : World} {pos : Nat} {v2 : Value} (hI : w2.heap[I]? = some (.stringIter s (pos + (Utf8.decode s pos).2))) (hlt : pos < s.size) (hl : dn.length ≤ 2 * pos) (hd : dn ++ unitsF s pos = unitsF s 0)
    (he : unitC (Utf8.decode s pos).1 = cs) (hW : w'.heap[I]? = w2.heap[I]?) (hb : Bd w w') (hO : OwnX 154 eH w' (I + 1) (dn ++ cs) v2) (hsz : I < w'.heap.size) : UI I s w w' (pos + (Utf8.decode s pos).2) v2 := by
  have hw := Lib.decode_width_pos s pos hlt
  have hc := unitC_len (Utf8.decode s pos).1
  rw [he] at hc
  have hw4 : (Utf8.decode s pos).2 ≤ 4 := wid_le s pos
  refine ⟨by rw [hW]; exact hI, by omega, dn ++ cs, by rw [List.length_append]; omega, ?_, hO, hb, hsz⟩
  rw [← hd, unitsF_next hlt, he, List.append_assoc]
set_option maxRecDepth 100000 in
set_option maxHeartbeats 8000000 in
theorem units_calls (s : ByteArray) (w : World) (hs : s.size ≤ 256) :
    Calls Tryz.prog 101 #[.string s] w fun e w' => ∃ v, e = .returned v ∧ IsX eH w' (unitsF s 0) v ∧ Bd w w' := by
  obtain ⟨wi, hwi, hI0, hBi⟩ : ∃ wi, w.iter s 0 = wi ∧ wi.heap[w.heap.size]? = some (.stringIter s 0) ∧ Bd w wi := ⟨_, rfl, World.iter_heap _ _ _, Bd.box _ _⟩
  have HWI := Lib.hid hwi
  have hsz0 : w.heap.size < wi.heap.size := (Array.getElem?_eq_some_iff.1 hI0).1
  have HQ0 : Hid (UI w.heap.size s w wi 0 (.slice none 0 0)) := Lib.hid ⟨hI0, by omega, [], by simp, by simp, OwnX.nil _ _ _ _, hBi, hsz0⟩
  go_enter Tryz.func101, Tryz.ntmps101
  go_wp2_with fail
  go_loopw [3] (fun v wr => ∃ pos : Nat, Hid (UI w.heap.size s w wr pos v)) (fun _ wr => s.size - wr.iterPos w.heap.size)
  case atStart => exact ⟨0, HQ0⟩
  case round =>
    obtain ⟨pos, hq⟩ := hrel
    have HP := Lib.hid hq.out.pos
    obtain ⟨hI, hps, dn, hdl, hdd, hO, hbw, hsz⟩ := hq.out
    clear HQ0 hI0 hBi
    by_cases hlt : pos < s.size
    · have hnx := fun ty => Lib.run_next_any_at (P := Tryz.prog) wr w.heap.size s pos ty hI hlt
      have hrl := Lib.rune_le s pos
      have hI2 := Lib.iterAt_heap wr w.heap.size s pos (pos + (Utf8.decode s pos).2) hI
      have hb2 : Bd w (wr.iterAt w.heap.size s (pos + (Utf8.decode s pos).2)) := ⟨Lib.below_iterAt hbw.below (Nat.le_refl _) s _, hbw.drawn⟩
      have hO2 : OwnX 154 eH (wr.iterAt w.heap.size s (pos + (Utf8.decode s pos).2)) (w.heap.size + 1) dn u3 := hO.keep fun k hk => Lib.iterAt_other _ _ _ _ _ (by have := (hO.own_lt k hk).1; omega)
      obtain ⟨w2, hw2⟩ : ∃ w2, wr.iterAt w.heap.size s (pos + (Utf8.decode s pos).2) = w2 := ⟨_, rfl⟩
      rw [hw2] at hI2 hb2 hO2
      have hsz2 : w.heap.size + 1 ≤ w2.heap.size := (Array.getElem?_eq_some_iff.1 hI2).1
      have HI2 := Lib.hid hI2
      have HDL := Lib.hid hdl
      have HDD := Lib.hid hdd
      have HB2 := Lib.hid hb2
      have HO2 := Lib.hid hO2
      have HLT := Lib.hid hlt
      obtain ⟨r, hr⟩ : ∃ r : Nat, (Utf8.decode s pos).1 = r := ⟨_, rfl⟩
      have HR := Lib.hid hr
      rw [hr] at hrl
      obtain ⟨A1, c1, rfl, hc1⟩ := hO2.form
      have hdn : dn.length ≤ 100000 := by omega
      clear hI2 hdl hdd hb2 hO2 hI hq hbw
      have hr2 : ((Utf8.decode s pos).1 : Int) = (r : Int) := by rw [hr]
      have HDN := Lib.hid hdn
      clear hdn hr
      by_cases c : (65535 : Int) < (r : Int)
      · have hd : decide ((65535 : Int) < (r : Int)) = true := decide_eq_true c
        have HE : Hid (unitC (Utf8.decode s pos).1 = [unitA r, unitB r]) := Lib.hid (by rw [hr2]; unfold unitC; rw [if_pos c])
        go_wp2_with (first
          | (at_builtin; refine append_xd 154 147 eH 2 Tryz.underlying147 _ infoH rfl (by decide) (w.heap.size + 1) rfl _ _ rfl (.slice A1 dn.length c1) dn (unitA r) rfl rfl rfl HO2.out hsz2 (by have := HDN.out; omega) ?_; intro v1 w3 hO3 hg3 hd3; have HO3 := Lib.hid hO3; have hB3 := HB2.out.grown hg3 hd3 (fun k hk => by have := (HO2.out.own_lt k hk).1; omega); have HB3 := Lib.hid hB3; have hs3 := Nat.le_trans hsz2 hg3.size; have HI3 := Lib.hid ((hg3.block w.heap.size (by omega) (fun e => by have := (HO2.out.own_lt _ e.symm).1; omega)).trans HI2.out); obtain ⟨A3, c3, rfl, hc3⟩ := hO3.form; rw [List.length_append, List.length_singleton] at HO3; clear hO3 hg3 hd3 hB3 HO2 HB2)
          | (at_builtin; refine append_xd 154 147 eH 2 Tryz.underlying147 _ infoH rfl (by decide) (w.heap.size + 1) rfl _ _ rfl (.slice A3 (dn.length + 1) c3) (dn ++ [unitA r]) (unitB r) rfl rfl rfl HO3.out hs3 (by have := HDN.out; rw [List.length_append, List.length_singleton]; omega) ?_; intro v1 w4 hO4 hg4 hd4; have HO4 := Lib.hid hO4; have hB4 := HB3.out.grown hg4 hd4 (fun k hk => by have := (HO3.out.own_lt k hk).1; omega); have HB4 := Lib.hid hB4; have hs4 := Nat.le_trans hs3 hg4.size; have HI4 := Lib.hid ((hg4.block w.heap.size (by omega) (fun e => by have := (HO3.out.own_lt _ e.symm).1; omega)).trans HI3.out); clear hO4 hg4 hd4 hB4))
        have hU := UI.next (cs := [unitA r, unitB r]) (v2 := v1) HI2.out HLT.out HDL.out HDD.out HE.out (HI4.out.trans HI2.out.symm) HB4.out (by have := HO4.out; rwa [List.append_assoc] at this) hs4
        refine ⟨⟨_, Lib.hid hU⟩, ?_⟩
        have hw := Lib.decode_width_pos s pos HLT.out
        rw [hU.pos, HP.out]
        have := HLT.out
        omega
      · have hd : decide ((65535 : Int) < (r : Int)) = false := decide_eq_false c
        have HE : Hid (unitC (Utf8.decode s pos).1 = [(r : Int)]) := Lib.hid (by rw [hr2]; unfold unitC; rw [if_neg c])
        go_wp2_with (first
          | (at_builtin; refine append_xd 154 147 eH 2 Tryz.underlying147 _ infoH rfl (by decide) (w.heap.size + 1) rfl _ _ rfl (.slice A1 dn.length c1) dn (r : Int) rfl rfl rfl HO2.out hsz2 (by have := HDN.out; omega) ?_; intro v1 w3 hO3 hg3 hd3; have HO3 := Lib.hid hO3; have hB3 := HB2.out.grown hg3 hd3 (fun k hk => by have := (HO2.out.own_lt k hk).1; omega); have HB3 := Lib.hid hB3; have hs3 := Nat.le_trans hsz2 hg3.size; have HI3 := Lib.hid ((hg3.block w.heap.size (by omega) (fun e => by have := (HO2.out.own_lt _ e.symm).1; omega)).trans HI2.out); clear hO3 hg3 hd3 hB3))
        have hU := UI.next (cs := [(r : Int)]) (v2 := v1) HI2.out HLT.out HDL.out HDD.out HE.out (HI3.out.trans HI2.out.symm) HB3.out HO3.out hs3
        refine ⟨⟨_, Lib.hid hU⟩, ?_⟩
        have hw := Lib.decode_width_pos s pos HLT.out
        rw [hU.pos, HP.out]
        have := HLT.out
        omega
    · have hnx := fun ty => Lib.run_next_end_at (P := Tryz.prog) wr w.heap.size s pos ty hI hlt
      have hd2 := hdd
      rw [unitsF_end hlt, List.append_nil] at hd2
      have HO := Lib.hid hO
      have HB := Lib.hid hbw
      clear hbw hdd hI hO
      go_wp2_with fail
      go_ret
      exact ⟨_, rfl, by rw [← hd2]; exact HO.out.is (by omega), HB.out⟩
end Go.Proofs.YtmnblgaefdahhaaGreatDoor
