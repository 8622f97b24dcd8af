/- slices.SortStableFunc at values: two sorted rows merged. slices.SortStableFunc at values: rows of twenty sorted, then merged two by two. -/
import Derived.Test.YtmnblgaefdahhaaGreatDoorProg
import Derived.Shelf.SlSortCmp.KitK
import Derived.Sort.WalkB2
import Derived.Sort.WalkB12
import Derived.Deep.LoopGhost
import Derived.Test.YtmnblgaefdahhaaGreatDoorCSvB
/- slices.SortStableFunc at values: two sorted rows merged. -/
set_option linter.unusedVariables false
set_option linter.unusedSimpArgs false
namespace Go.Proofs.YtmnblgaefdahhaaGreatDoor
open Go.Shelf Go.RowKit Go.Lib Go.Sort
variable {P : Program} {k : Nat} {α : Type} [Inhabited α]
def SymAt (P : Program) (enc : α → List Value) (cf : α → α → Int) (k : Nat) (g : Nat) (cb : Array Value) (blk off cap : Nat) (d0 : Array α) (w0 : World) (N : Nat) : Prop :=
  ∀ (a m b : Nat) (d : Array α) (w : World), b - a ≤ N → a < m → m < b → b ≤ d.size → d0.size = d.size → SWK enc k w0 blk off d w → SortedIn (ltOf cf) a m d → SortedIn (ltOf cf) m b d → SymSaid P enc cf k g cb blk off cap w0 a m b d w
set_option maxHeartbeats 16000000 in
set_option maxRecDepth 1000000 in
theorem sym_many (L : StP P k) (enc : α → List Value) (cf : α → α → Int) (g : Nat) (cb : Array Value) (blk off cap a m b : Nat) (d0 d : Array α) (w0 w : World)
    (eg : ∀ args w, (callFunc g args).run P w = .ok (.enter g args) w) (hcmp : CmpLays P g cb enc k cf blk off d0.size w0) (SO : SWO (ltOf cf)) (R : RowK enc k w0 blk off d0) (hs : d0.size = d.size) (S : SWK enc k w0 blk off d w)
    (ham : a < m) (hmb : m < b) (hb : b ≤ d.size) (hsz : d.size < 4611686018427387904) (hl : SortedIn (ltOf cf) a m d) (hr : SortedIn (ltOf cf) m b d) (h1' : ¬ m = a + 1) (h2' : ¬ b = m + 1) (ih : SymAt P enc cf k g cb blk off cap d0 w0 (b - a - 1)) :
    SymSaid P enc cf k g cb blk off cap w0 a m b d w := by
  have mixed := L.mixed; have t0 := L.t0; have a0 := L.a0; have z0 := L.z0; have v0 := L.v0; have t3 := L.t3; have a3 := L.a3; have z3 := L.z3; have v3 := L.v3; have t4 := L.t4; have a4 := L.a4; have z4 := L.z4; have v4 := L.v4
  have t80 := L.t80; have a80 := L.a80; have z80 := L.z80; have v80 := L.v80; have t87 := L.t87; have a87 := L.a87; have z87 := L.z87; have v87 := L.v87; have aE := L.aE; have zE := L.zE; have t114 := L.t114; have a114 := L.a114; have z114 := L.z114; have v114 := L.v114
  have S0 : Aside (SWK enc k w0 blk off d w) := S
  have FG := L.f_sym
  have e139 := L.e_rot
  have e122 := L.e_sym
  have HC : Aside _ := hcmp
  have HL : Hid _ := hl
  have HR : Hid _ := hr
  have IH : Hid _ := ih
  have hm1 : ¬ (m : Int) - (a : Int) = 1 := by omega
  have hm2 : ((m : Int) - (a : Int) == 1) = false := beq_eq_false_iff_ne.2 hm1
  have hb1 : ¬ (b : Int) - (m : Int) = 1 := by omega
  have hb2 : ((b : Int) - (m : Int) == 1) = false := beq_eq_false_iff_ne.2 hb1
  have mo := fun (s s0 r0 : Nat) => cut_found (lt := ltOf cf) SO (s := s) ham hmb hl hr s0 r0
  obtain ⟨mid, hmid⟩ : ∃ mid : Nat, (a + b) / 2 = mid := ⟨_, rfl⟩
  rw [hmid] at mo
  have MO : Hid _ := mo
  have hmz : ((a : Int) + (b : Int)) / 2 = (mid : Int) := by omega
  have hm3 : a < mid := by omega
  have hm4 : mid < b := by omega
  obtain ⟨q, hq⟩ : ∃ q : Nat, (mid : Int) + (m : Int) - 1 = (q : Int) := ⟨mid + m - 1, by omega⟩
  clear S hcmp hl hr mo ih h1' h2'
  unfold SymSaid
  by_cases hc : mid < m
  · have hcz : (mid : Int) < (m : Int) := by omega
    have hcd : decide ((m : Int) > (mid : Int)) = true := decide_eq_true hcz
    obtain ⟨s0, hs0⟩ : ∃ s0 : Nat, (mid : Int) + (m : Int) - (b : Int) = (s0 : Int) := ⟨mid + m - b, by omega⟩
    obtain ⟨r0, hr0⟩ : ∃ r0 : Nat, r0 = mid := ⟨_, rfl⟩
    have H0 : Hid ((mid < m ∧ s0 = mid + m - b ∧ r0 = mid) ∨ (m ≤ mid ∧ s0 = a ∧ r0 = m)) := .inl ⟨hc, by omega, hr0⟩
    have hs1 : a ≤ s0 := by omega
    have hr1 : r0 ≤ m := by omega
    have hr2 : r0 ≤ mid := by omega
    have hs2 : mid + m ≤ s0 + b := by omega
    have hsr : s0 ≤ r0 := by omega
    have HS0 : Hid (r0 = mid) := hr0
    clear hr0
    go_enter FG, Tryz.ntmps68
    go_wp2
    go_loopg [20, 21] (r0 - s0) (fun kx s20 s21 wr => ∃ (i j : Nat), s20 = .int .i64 i ∧ s21 = .int .i64 j ∧ s0 ≤ i ∧ i ≤ j ∧ j ≤ r0 ∧ j - i ≤ kx ∧ Aside (SWK enc k w0 blk off d wr) ∧ Hid (s0 < i → ltOf cf d[mid + m - i]! d[i - 1]! = false) ∧ Hid (j < r0 → ltOf cf d[mid + m - 1 - j]! d[j]! = true))
    case atStart => exact ⟨s0, r0, rfl, by rw [HS0.out], Nat.le_refl _, hsr, Nat.le_refl _, Nat.le_refl _, S0, fun h => absurd h (Nat.lt_irrefl _), fun h => absurd h (Nat.lt_irrefl _)⟩
    case round =>
      clear S0
      obtain ⟨i, j, rfl, rfl, hmi, hij, hjb, hkx, S1, I1, I2⟩ := hrel
      by_cases hlt : i < j
      · have hltz : (i : Int) < (j : Int) := by omega
        obtain ⟨h, hh⟩ : ∃ h : Nat, (i + j) / 2 = h := ⟨_, rfl⟩
        have ehz : ((i : Int) + (j : Int)) / 2 = (h : Int) := by omega
        have hih : i ≤ h := by omega
        have hhj : h < j := by omega
        clear hh
        go_wp2_with fail
        obtain ⟨t, ht⟩ : ∃ t : Nat, t = mid + m - 1 - h := ⟨_, rfl⟩
        have htz : (q : Int) - (h : Int) = (t : Int) := by omega
        have htd : t < d.size := by omega
        have HT : Hid _ := ht
        clear ht
        cases hL : ltOf cf d[t]! d[h]! with
        | false =>
          have ea1 : ((t : Int)).toNat = t := by omega
          have pa1 : (0 : Int) ≤ (t : Int) := by omega
          have ba1 : (t : Int) < (d.size : Int) := by omega
          have ra1 : IntKind.i64.wrap ((t : Int)) = (t : Int) := by rw [IntKind.wrap_i64]; omega
          have ec1 : ((h : Int)).toNat = h := by omega
          have pc1 : (0 : Int) ≤ (h : Int) := by omega
          have bc1 : (h : Int) < (d.size : Int) := by omega
          have rc1 : IntKind.i64.wrap ((h : Int)) = (h : Int) := by rw [IntKind.wrap_i64]; omega
          obtain ⟨x1, hx1⟩ : ∃ x, x = d[t]! := ⟨_, rfl⟩
          obtain ⟨y1, hy1⟩ : ∃ x, x = d[h]! := ⟨_, rfl⟩
          have l1a := S1.out.ld R (by omega) P (t) (by omega)
          have l1b := S1.out.ld R (by omega) P (h) (by omega)
          rw [← hx1] at l1a
          rw [← hy1] at l1b
          have hc1 := S1.out.cmp HC.out (by omega) x1 y1
          have hv1 : ¬ cf x1 y1 < 0 := by rw [hx1, hy1]; exact of_decide_eq_false hL
          have hd1 : decide (cf x1 y1 < 0) = false := decide_eq_false hv1
          clear hx1 hy1
          go_wp2_with fail
          go_quiet_grown (first | (go_at_fn g; refine Calls.grown_of (hc1 _ _)))
          have S2 : Aside (SWK enc k w0 blk off d (grow (wr.drewN nq) osq)) := S1.out.grown nq osq
          clear l1a l1b hc1 S1
          generalize grow (wr.drewN nq) osq = w2 at S2 ⊢
          clear nq osq
          go_wp2_with fail
          go_roundg (j - (h + 1))
          case measure => omega
          case rel => exact ⟨h + 1, j, by go_num, rfl, by omega, by omega, hjb, Nat.le_refl _, S2, fun _ => by rw [show mid + m - (h + 1) = t by have := HT.out; omega, Nat.add_sub_cancel]; exact hL, I2⟩
        | true =>
          have ea2 : ((t : Int)).toNat = t := by omega
          have pa2 : (0 : Int) ≤ (t : Int) := by omega
          have ba2 : (t : Int) < (d.size : Int) := by omega
          have ra2 : IntKind.i64.wrap ((t : Int)) = (t : Int) := by rw [IntKind.wrap_i64]; omega
          have ec2 : ((h : Int)).toNat = h := by omega
          have pc2 : (0 : Int) ≤ (h : Int) := by omega
          have bc2 : (h : Int) < (d.size : Int) := by omega
          have rc2 : IntKind.i64.wrap ((h : Int)) = (h : Int) := by rw [IntKind.wrap_i64]; omega
          obtain ⟨x2, hx2⟩ : ∃ x, x = d[t]! := ⟨_, rfl⟩
          obtain ⟨y2, hy2⟩ : ∃ x, x = d[h]! := ⟨_, rfl⟩
          have l2a := S1.out.ld R (by omega) P (t) (by omega)
          have l2b := S1.out.ld R (by omega) P (h) (by omega)
          rw [← hx2] at l2a
          rw [← hy2] at l2b
          have hc2 := S1.out.cmp HC.out (by omega) x2 y2
          have hv2 : cf x2 y2 < 0 := by rw [hx2, hy2]; exact of_decide_eq_true hL
          have hd2 : decide (cf x2 y2 < 0) = true := decide_eq_true hv2
          clear hx2 hy2
          go_wp2_with fail
          go_quiet_grown (first | (go_at_fn g; refine Calls.grown_of (hc2 _ _)))
          have S2 : Aside (SWK enc k w0 blk off d (grow (wr.drewN nq) osq)) := S1.out.grown nq osq
          clear l2a l2b hc2 S1
          generalize grow (wr.drewN nq) osq = w2 at S2 ⊢
          clear nq osq
          go_wp2_with fail
          go_roundg (h - i)
          case measure => omega
          case rel => exact ⟨i, h, rfl, rfl, hmi, hih, by omega, Nat.le_refl _, S2, I1, fun _ => by rw [← HT.out]; exact hL⟩
      · obtain rfl : j = i := by omega
        have hltz : ¬ (j : Int) < (j : Int) := by omega
        obtain ⟨hcut, hmide, _⟩ := MO.out j s0 r0 H0.out hmi hjb I1.out I2.out
        obtain ⟨e, he⟩ : ∃ e : Nat, mid + m - j = e := ⟨_, rfl⟩
        rw [he] at hcut hmide
        have hez : (mid : Int) + (m : Int) - (j : Int) = (e : Int) := by omega
        have hje : e ≤ b := hcut.eb
        have hme : m ≤ e := hcut.me
        have hjm : j ≤ m := hcut.sm
        have haj : a ≤ j := hcut.lo
        have hjmid : j ≤ mid := by omega
        have hmide2 : mid ≤ e := by omega
        have CUT : Hid (CutAt (ltOf cf) a j m e b d ∧ j + (e - m) = mid) := ⟨hcut, hmide⟩
        clear hcut hmide he hlt MO I1 I2 HL HR H0 HS0 hltz hkx
        by_cases c1 : j < m ∧ m < e
        · obtain ⟨c1a, c1b⟩ := c1
          have c1z : (j : Int) < (m : Int) := by omega
          have c1y : (m : Int) < (e : Int) := by omega
          have c1d : decide ((j : Int) < (m : Int)) = true := decide_eq_true c1z
          have c1e : decide ((m : Int) < (e : Int)) = true := decide_eq_true c1y
          have hrot := rotate_calls L enc g cb blk off cap j m e d0 d w0 wr R (by omega) S1.out (by omega) (by omega) (by omega) (by omega)
          have hd1 : Hid (∀ d1 : Array α, PermIn j e d d1 → (∀ x, d1[x]! = rotN j m e (fun x => d[x]!) x) → d1.size = d.size ∧ d0.size = d1.size) := fun d1 p _ => ⟨p.1, by rw [p.1]; exact hs⟩
          clear S1
          by_cases c2 : a < j ∧ j < mid
          · obtain ⟨c2a, c2b⟩ := c2
            have c2z : (a : Int) < (j : Int) := by omega
            have c2y : (j : Int) < (mid : Int) := by omega
            have c2d : decide ((a : Int) < (j : Int)) = true := decide_eq_true c2z
            have c2e : decide ((j : Int) < (mid : Int)) = true := decide_eq_true c2y
            by_cases c3 : mid < e ∧ e < b
            · obtain ⟨c3a, c3b⟩ := c3
              have c3z : (mid : Int) < (e : Int) := by omega
              have c3y : (e : Int) < (b : Int) := by omega
              have c3d : decide ((mid : Int) < (e : Int)) = true := decide_eq_true c3z
              have c3e : decide ((e : Int) < (b : Int)) = true := decide_eq_true c3y
              go_wp2_with (first
                | (go_at_fn 87; refine hrot.mono ?_; rintro e1 w1 ⟨rfl, d1, S2, P1, X1⟩; have S3 : Aside (SWK enc k w0 blk off d1 w1) := S2; have P1 : Hid (PermIn j e d d1) := P1; have X1 : Hid (∀ x, d1[x]! = rotN j m e (fun x => d[x]!) x) := X1; have hz1 := hd1.out d1 P1.out X1.out; clear S2)
                | (go_at_fn 68; have hcal := IH.out a j mid d1 w1 (by omega) c2a c2b (by have hzz := P1.out.1; omega) (by have hzz := P1.out.1; omega) S3.out (CUT.out.1.rot X1.out).1 (CUT.out.2 ▸ (CUT.out.1.rot X1.out).2.1); unfold SymSaid at hcal; rw [show d1.size = d.size from P1.out.1] at hcal; refine hcal.mono ?_; clear hcal; rintro e2 w2 ⟨rfl, d2, S4, P2, Y2⟩; have S5 : Aside (SWK enc k w0 blk off d2 w2) := S4; have P2 : Hid (PermIn a mid d1 d2) := P2; have Y2 : Hid (SortedIn (ltOf cf) a mid d2) := Y2; clear S4)
                | (go_at_fn 68; have hzs : d2.size = d.size := (P2.out.1.trans P1.out.1); have hcal := IH.out mid e b d2 w2 (by omega) c3a c3b (by omega) (by omega) S5.out (sorted_out P2.out (CUT.out.2 ▸ (CUT.out.1.rot X1.out).2.2.1 : SortedIn (ltOf cf) mid e d1) (.inl (Nat.le_refl _))) (sorted_out P2.out (CUT.out.1.rot X1.out).2.2.2.1 (.inl (by omega))); unfold SymSaid at hcal; rw [hzs] at hcal; refine hcal.mono ?_; clear hcal hzs; rintro e3 w3 ⟨rfl, d3, S6, P3, Y3⟩; have S7 : Aside (SWK enc k w0 blk off d3 w3) := S6; have P3 : Hid (PermIn mid b d2 d3) := P3; have Y3 : Hid (SortedIn (ltOf cf) mid b d3) := Y3; clear S6)
                )
              all_goals go_end0
              all_goals exact ⟨rfl, d3, S7.out, sym_done CUT.out.1 CUT.out.2 hb P1.out X1.out (.inl ⟨c2a, c2b, P2.out, Y2.out⟩) (.inl ⟨c3a, c3b, P3.out, Y3.out⟩)⟩
            · have c3d : (decide ((mid : Int) < (e : Int)) && decide ((e : Int) < (b : Int))) = false := by rw [Bool.and_eq_false_iff, decide_eq_false_iff_not, decide_eq_false_iff_not]; omega
              have c3z : (mid : Int) < (e : Int) → ¬ (e : Int) < (b : Int) := by omega
              go_wp2_with (first
                | (go_at_fn 87; refine hrot.mono ?_; rintro e1 w1 ⟨rfl, d1, S2, P1, X1⟩; have S3 : Aside (SWK enc k w0 blk off d1 w1) := S2; have P1 : Hid (PermIn j e d d1) := P1; have X1 : Hid (∀ x, d1[x]! = rotN j m e (fun x => d[x]!) x) := X1; have hz1 := hd1.out d1 P1.out X1.out; clear S2)
                | (go_at_fn 68; have hcal := IH.out a j mid d1 w1 (by omega) c2a c2b (by have hzz := P1.out.1; omega) (by have hzz := P1.out.1; omega) S3.out (CUT.out.1.rot X1.out).1 (CUT.out.2 ▸ (CUT.out.1.rot X1.out).2.1); unfold SymSaid at hcal; rw [show d1.size = d.size from P1.out.1] at hcal; refine hcal.mono ?_; clear hcal; rintro e2 w2 ⟨rfl, d2, S4, P2, Y2⟩; have S5 : Aside (SWK enc k w0 blk off d2 w2) := S4; have P2 : Hid (PermIn a mid d1 d2) := P2; have Y2 : Hid (SortedIn (ltOf cf) a mid d2) := Y2; clear S4)
                )
              all_goals go_end0
              all_goals exact ⟨rfl, d2, S5.out, sym_done CUT.out.1 CUT.out.2 hb P1.out X1.out (.inl ⟨c2a, c2b, P2.out, Y2.out⟩) (.inr ⟨c3, rfl⟩)⟩
          · have c2d : (decide ((a : Int) < (j : Int)) && decide ((j : Int) < (mid : Int))) = false := by rw [Bool.and_eq_false_iff, decide_eq_false_iff_not, decide_eq_false_iff_not]; omega
            have c2z : (a : Int) < (j : Int) → ¬ (j : Int) < (mid : Int) := by omega
            by_cases c3 : mid < e ∧ e < b
            · obtain ⟨c3a, c3b⟩ := c3
              have c3z : (mid : Int) < (e : Int) := by omega
              have c3y : (e : Int) < (b : Int) := by omega
              have c3d : decide ((mid : Int) < (e : Int)) = true := decide_eq_true c3z
              have c3e : decide ((e : Int) < (b : Int)) = true := decide_eq_true c3y
              go_wp2_with (first
                | (go_at_fn 87; refine hrot.mono ?_; rintro e1 w1 ⟨rfl, d1, S2, P1, X1⟩; have S3 : Aside (SWK enc k w0 blk off d1 w1) := S2; have P1 : Hid (PermIn j e d d1) := P1; have X1 : Hid (∀ x, d1[x]! = rotN j m e (fun x => d[x]!) x) := X1; have hz1 := hd1.out d1 P1.out X1.out; clear S2)
                | (go_at_fn 68; have hzs : d1.size = d.size := P1.out.1; have hcal := IH.out mid e b d1 w1 (by omega) c3a c3b (by omega) (by omega) S3.out (CUT.out.2 ▸ (CUT.out.1.rot X1.out).2.2.1) (CUT.out.1.rot X1.out).2.2.2.1; unfold SymSaid at hcal; rw [hzs] at hcal; refine hcal.mono ?_; clear hcal hzs; rintro e3 w3 ⟨rfl, d3, S6, P3, Y3⟩; have S7 : Aside (SWK enc k w0 blk off d3 w3) := S6; have P3 : Hid (PermIn mid b d1 d3) := P3; have Y3 : Hid (SortedIn (ltOf cf) mid b d3) := Y3; clear S6)
                )
              all_goals go_end0
              all_goals exact ⟨rfl, d3, S7.out, sym_done CUT.out.1 CUT.out.2 hb P1.out X1.out (.inr ⟨c2, rfl⟩) (.inl ⟨c3a, c3b, P3.out, Y3.out⟩)⟩
            · have c3d : (decide ((mid : Int) < (e : Int)) && decide ((e : Int) < (b : Int))) = false := by rw [Bool.and_eq_false_iff, decide_eq_false_iff_not, decide_eq_false_iff_not]; omega
              have c3z : (mid : Int) < (e : Int) → ¬ (e : Int) < (b : Int) := by omega
              go_wp2_with (go_at_fn 87; refine hrot.mono ?_; rintro e1 w1 ⟨rfl, d1, S2, P1, X1⟩; have S3 : Aside (SWK enc k w0 blk off d1 w1) := S2; have P1 : Hid (PermIn j e d d1) := P1; have X1 : Hid (∀ x, d1[x]! = rotN j m e (fun x => d[x]!) x) := X1; have hz1 := hd1.out d1 P1.out X1.out; clear S2)
              all_goals go_end0
              all_goals exact ⟨rfl, d1, S3.out, sym_done CUT.out.1 CUT.out.2 hb P1.out X1.out (.inr ⟨c2, rfl⟩) (.inr ⟨c3, rfl⟩)⟩
        · have P1 : Hid (PermIn j e d d) := permIn_refl _ _ _
          have X1 : Hid (∀ x, d[x]! = rotN j m e (fun x => d[x]!) x) := fun x => by
            by_cases cc : j = m
            · rw [cc, rotN_none]
            · rw [show e = m by omega, rotN_end]
          have c1d : (decide ((j : Int) < (m : Int)) && decide ((m : Int) < (e : Int))) = false := by rw [Bool.and_eq_false_iff, decide_eq_false_iff_not, decide_eq_false_iff_not]; omega
          have c1z : (j : Int) < (m : Int) → ¬ (m : Int) < (e : Int) := by omega
          by_cases c2 : a < j ∧ j < mid
          · obtain ⟨c2a, c2b⟩ := c2
            have c2z : (a : Int) < (j : Int) := by omega
            have c2y : (j : Int) < (mid : Int) := by omega
            have c2d : decide ((a : Int) < (j : Int)) = true := decide_eq_true c2z
            have c2e : decide ((j : Int) < (mid : Int)) = true := decide_eq_true c2y
            by_cases c3 : mid < e ∧ e < b
            · obtain ⟨c3a, c3b⟩ := c3
              have c3z : (mid : Int) < (e : Int) := by omega
              have c3y : (e : Int) < (b : Int) := by omega
              have c3d : decide ((mid : Int) < (e : Int)) = true := decide_eq_true c3z
              have c3e : decide ((e : Int) < (b : Int)) = true := decide_eq_true c3y
              go_wp2_with (first
                | (go_at_fn 68; have hcal := IH.out a j mid d wr (by omega) c2a c2b (by have hzz := P1.out.1; omega) (by have hzz := P1.out.1; omega) S1.out (CUT.out.1.rot X1.out).1 (CUT.out.2 ▸ (CUT.out.1.rot X1.out).2.1); unfold SymSaid at hcal; rw [show d.size = d.size from P1.out.1] at hcal; refine hcal.mono ?_; clear hcal; rintro e2 w2 ⟨rfl, d2, S4, P2, Y2⟩; have S5 : Aside (SWK enc k w0 blk off d2 w2) := S4; have P2 : Hid (PermIn a mid d d2) := P2; have Y2 : Hid (SortedIn (ltOf cf) a mid d2) := Y2; clear S4)
                | (go_at_fn 68; have hzs : d2.size = d.size := (P2.out.1.trans P1.out.1); have hcal := IH.out mid e b d2 w2 (by omega) c3a c3b (by omega) (by omega) S5.out (sorted_out P2.out (CUT.out.2 ▸ (CUT.out.1.rot X1.out).2.2.1 : SortedIn (ltOf cf) mid e d) (.inl (Nat.le_refl _))) (sorted_out P2.out (CUT.out.1.rot X1.out).2.2.2.1 (.inl (by omega))); unfold SymSaid at hcal; rw [hzs] at hcal; refine hcal.mono ?_; clear hcal hzs; rintro e3 w3 ⟨rfl, d3, S6, P3, Y3⟩; have S7 : Aside (SWK enc k w0 blk off d3 w3) := S6; have P3 : Hid (PermIn mid b d2 d3) := P3; have Y3 : Hid (SortedIn (ltOf cf) mid b d3) := Y3; clear S6)
                )
              all_goals go_end0
              all_goals exact ⟨rfl, d3, S7.out, sym_done CUT.out.1 CUT.out.2 hb P1.out X1.out (.inl ⟨c2a, c2b, P2.out, Y2.out⟩) (.inl ⟨c3a, c3b, P3.out, Y3.out⟩)⟩
            · have c3d : (decide ((mid : Int) < (e : Int)) && decide ((e : Int) < (b : Int))) = false := by rw [Bool.and_eq_false_iff, decide_eq_false_iff_not, decide_eq_false_iff_not]; omega
              have c3z : (mid : Int) < (e : Int) → ¬ (e : Int) < (b : Int) := by omega
              go_wp2_with (go_at_fn 68; have hcal := IH.out a j mid d wr (by omega) c2a c2b (by have hzz := P1.out.1; omega) (by have hzz := P1.out.1; omega) S1.out (CUT.out.1.rot X1.out).1 (CUT.out.2 ▸ (CUT.out.1.rot X1.out).2.1); unfold SymSaid at hcal; rw [show d.size = d.size from P1.out.1] at hcal; refine hcal.mono ?_; clear hcal; rintro e2 w2 ⟨rfl, d2, S4, P2, Y2⟩; have S5 : Aside (SWK enc k w0 blk off d2 w2) := S4; have P2 : Hid (PermIn a mid d d2) := P2; have Y2 : Hid (SortedIn (ltOf cf) a mid d2) := Y2; clear S4)
              all_goals go_end0
              all_goals exact ⟨rfl, d2, S5.out, sym_done CUT.out.1 CUT.out.2 hb P1.out X1.out (.inl ⟨c2a, c2b, P2.out, Y2.out⟩) (.inr ⟨c3, rfl⟩)⟩
          · have c2d : (decide ((a : Int) < (j : Int)) && decide ((j : Int) < (mid : Int))) = false := by rw [Bool.and_eq_false_iff, decide_eq_false_iff_not, decide_eq_false_iff_not]; omega
            have c2z : (a : Int) < (j : Int) → ¬ (j : Int) < (mid : Int) := by omega
            by_cases c3 : mid < e ∧ e < b
            · obtain ⟨c3a, c3b⟩ := c3
              have c3z : (mid : Int) < (e : Int) := by omega
              have c3y : (e : Int) < (b : Int) := by omega
              have c3d : decide ((mid : Int) < (e : Int)) = true := decide_eq_true c3z
              have c3e : decide ((e : Int) < (b : Int)) = true := decide_eq_true c3y
              go_wp2_with (go_at_fn 68; have hzs : d.size = d.size := P1.out.1; have hcal := IH.out mid e b d wr (by omega) c3a c3b (by omega) (by omega) S1.out (CUT.out.2 ▸ (CUT.out.1.rot X1.out).2.2.1) (CUT.out.1.rot X1.out).2.2.2.1; unfold SymSaid at hcal; rw [hzs] at hcal; refine hcal.mono ?_; clear hcal hzs; rintro e3 w3 ⟨rfl, d3, S6, P3, Y3⟩; have S7 : Aside (SWK enc k w0 blk off d3 w3) := S6; have P3 : Hid (PermIn mid b d d3) := P3; have Y3 : Hid (SortedIn (ltOf cf) mid b d3) := Y3; clear S6)
              all_goals go_end0
              all_goals exact ⟨rfl, d3, S7.out, sym_done CUT.out.1 CUT.out.2 hb P1.out X1.out (.inr ⟨c2, rfl⟩) (.inl ⟨c3a, c3b, P3.out, Y3.out⟩)⟩
            · have c3d : (decide ((mid : Int) < (e : Int)) && decide ((e : Int) < (b : Int))) = false := by rw [Bool.and_eq_false_iff, decide_eq_false_iff_not, decide_eq_false_iff_not]; omega
              have c3z : (mid : Int) < (e : Int) → ¬ (e : Int) < (b : Int) := by omega
              go_wp2_with fail
              all_goals go_end0
              all_goals exact ⟨rfl, d, S1.out, sym_done CUT.out.1 CUT.out.2 hb P1.out X1.out (.inr ⟨c2, rfl⟩) (.inr ⟨c3, rfl⟩)⟩
  · have hcz : ¬ (mid : Int) < (m : Int) := by omega
    have hcd : decide ((m : Int) > (mid : Int)) = false := decide_eq_false hcz
    obtain ⟨s0, hs0⟩ : ∃ s0 : Nat, s0 = a := ⟨_, rfl⟩
    obtain ⟨r0, hr0⟩ : ∃ r0 : Nat, r0 = m := ⟨_, rfl⟩
    have H0 : Hid ((mid < m ∧ s0 = mid + m - b ∧ r0 = mid) ∨ (m ≤ mid ∧ s0 = a ∧ r0 = m)) := .inr ⟨by omega, hs0, hr0⟩
    have hs1 : a ≤ s0 := by omega
    have hr1 : r0 ≤ m := by omega
    have hr2 : r0 ≤ mid := by omega
    have hs2 : mid + m ≤ s0 + b := by omega
    have hsr : s0 ≤ r0 := by omega
    have HS0 : Hid (s0 = a ∧ r0 = m) := ⟨hs0, hr0⟩
    clear hr0 hs0
    go_enter FG, Tryz.ntmps68
    go_wp2
    go_loopg [20, 21] (r0 - s0) (fun kx s20 s21 wr => ∃ (i j : Nat), s20 = .int .i64 i ∧ s21 = .int .i64 j ∧ s0 ≤ i ∧ i ≤ j ∧ j ≤ r0 ∧ j - i ≤ kx ∧ Aside (SWK enc k w0 blk off d wr) ∧ Hid (s0 < i → ltOf cf d[mid + m - i]! d[i - 1]! = false) ∧ Hid (j < r0 → ltOf cf d[mid + m - 1 - j]! d[j]! = true))
    case atStart => exact ⟨s0, r0, by rw [HS0.out.1], by rw [HS0.out.2], Nat.le_refl _, hsr, Nat.le_refl _, Nat.le_refl _, S0, fun h => absurd h (Nat.lt_irrefl _), fun h => absurd h (Nat.lt_irrefl _)⟩
    case round =>
      clear S0
      obtain ⟨i, j, rfl, rfl, hmi, hij, hjb, hkx, S1, I1, I2⟩ := hrel
      by_cases hlt : i < j
      · have hltz : (i : Int) < (j : Int) := by omega
        obtain ⟨h, hh⟩ : ∃ h : Nat, (i + j) / 2 = h := ⟨_, rfl⟩
        have ehz : ((i : Int) + (j : Int)) / 2 = (h : Int) := by omega
        have hih : i ≤ h := by omega
        have hhj : h < j := by omega
        clear hh
        go_wp2_with fail
        obtain ⟨t, ht⟩ : ∃ t : Nat, t = mid + m - 1 - h := ⟨_, rfl⟩
        have htz : (q : Int) - (h : Int) = (t : Int) := by omega
        have htd : t < d.size := by omega
        have HT : Hid _ := ht
        clear ht
        cases hL : ltOf cf d[t]! d[h]! with
        | false =>
          have ea1 : ((t : Int)).toNat = t := by omega
          have pa1 : (0 : Int) ≤ (t : Int) := by omega
          have ba1 : (t : Int) < (d.size : Int) := by omega
          have ra1 : IntKind.i64.wrap ((t : Int)) = (t : Int) := by rw [IntKind.wrap_i64]; omega
          have ec1 : ((h : Int)).toNat = h := by omega
          have pc1 : (0 : Int) ≤ (h : Int) := by omega
          have bc1 : (h : Int) < (d.size : Int) := by omega
          have rc1 : IntKind.i64.wrap ((h : Int)) = (h : Int) := by rw [IntKind.wrap_i64]; omega
          obtain ⟨x1, hx1⟩ : ∃ x, x = d[t]! := ⟨_, rfl⟩
          obtain ⟨y1, hy1⟩ : ∃ x, x = d[h]! := ⟨_, rfl⟩
          have l1a := S1.out.ld R (by omega) P (t) (by omega)
          have l1b := S1.out.ld R (by omega) P (h) (by omega)
          rw [← hx1] at l1a
          rw [← hy1] at l1b
          have hc1 := S1.out.cmp HC.out (by omega) x1 y1
          have hv1 : ¬ cf x1 y1 < 0 := by rw [hx1, hy1]; exact of_decide_eq_false hL
          have hd1 : decide (cf x1 y1 < 0) = false := decide_eq_false hv1
          clear hx1 hy1
          go_wp2_with fail
          go_quiet_grown (first | (go_at_fn g; refine Calls.grown_of (hc1 _ _)))
          have S2 : Aside (SWK enc k w0 blk off d (grow (wr.drewN nq) osq)) := S1.out.grown nq osq
          clear l1a l1b hc1 S1
          generalize grow (wr.drewN nq) osq = w2 at S2 ⊢
          clear nq osq
          go_wp2_with fail
          go_roundg (j - (h + 1))
          case measure => omega
          case rel => exact ⟨h + 1, j, by go_num, rfl, by omega, by omega, hjb, Nat.le_refl _, S2, fun _ => by rw [show mid + m - (h + 1) = t by have := HT.out; omega, Nat.add_sub_cancel]; exact hL, I2⟩
        | true =>
          have ea2 : ((t : Int)).toNat = t := by omega
          have pa2 : (0 : Int) ≤ (t : Int) := by omega
          have ba2 : (t : Int) < (d.size : Int) := by omega
          have ra2 : IntKind.i64.wrap ((t : Int)) = (t : Int) := by rw [IntKind.wrap_i64]; omega
          have ec2 : ((h : Int)).toNat = h := by omega
          have pc2 : (0 : Int) ≤ (h : Int) := by omega
          have bc2 : (h : Int) < (d.size : Int) := by omega
          have rc2 : IntKind.i64.wrap ((h : Int)) = (h : Int) := by rw [IntKind.wrap_i64]; omega
          obtain ⟨x2, hx2⟩ : ∃ x, x = d[t]! := ⟨_, rfl⟩
          obtain ⟨y2, hy2⟩ : ∃ x, x = d[h]! := ⟨_, rfl⟩
          have l2a := S1.out.ld R (by omega) P (t) (by omega)
          have l2b := S1.out.ld R (by omega) P (h) (by omega)
          rw [← hx2] at l2a
          rw [← hy2] at l2b
          have hc2 := S1.out.cmp HC.out (by omega) x2 y2
          have hv2 : cf x2 y2 < 0 := by rw [hx2, hy2]; exact of_decide_eq_true hL
          have hd2 : decide (cf x2 y2 < 0) = true := decide_eq_true hv2
          clear hx2 hy2
          go_wp2_with fail
          go_quiet_grown (first | (go_at_fn g; refine Calls.grown_of (hc2 _ _)))
          have S2 : Aside (SWK enc k w0 blk off d (grow (wr.drewN nq) osq)) := S1.out.grown nq osq
          clear l2a l2b hc2 S1
          generalize grow (wr.drewN nq) osq = w2 at S2 ⊢
          clear nq osq
          go_wp2_with fail
          go_roundg (h - i)
          case measure => omega
          case rel => exact ⟨i, h, rfl, rfl, hmi, hih, by omega, Nat.le_refl _, S2, I1, fun _ => by rw [← HT.out]; exact hL⟩
      · obtain rfl : j = i := by omega
        have hltz : ¬ (j : Int) < (j : Int) := by omega
        obtain ⟨hcut, hmide, _⟩ := MO.out j s0 r0 H0.out hmi hjb I1.out I2.out
        obtain ⟨e, he⟩ : ∃ e : Nat, mid + m - j = e := ⟨_, rfl⟩
        rw [he] at hcut hmide
        have hez : (mid : Int) + (m : Int) - (j : Int) = (e : Int) := by omega
        have hje : e ≤ b := hcut.eb
        have hme : m ≤ e := hcut.me
        have hjm : j ≤ m := hcut.sm
        have haj : a ≤ j := hcut.lo
        have hjmid : j ≤ mid := by omega
        have hmide2 : mid ≤ e := by omega
        have CUT : Hid (CutAt (ltOf cf) a j m e b d ∧ j + (e - m) = mid) := ⟨hcut, hmide⟩
        clear hcut hmide he hlt MO I1 I2 HL HR H0 HS0 hltz hkx
        by_cases c1 : j < m ∧ m < e
        · obtain ⟨c1a, c1b⟩ := c1
          have c1z : (j : Int) < (m : Int) := by omega
          have c1y : (m : Int) < (e : Int) := by omega
          have c1d : decide ((j : Int) < (m : Int)) = true := decide_eq_true c1z
          have c1e : decide ((m : Int) < (e : Int)) = true := decide_eq_true c1y
          have hrot := rotate_calls L enc g cb blk off cap j m e d0 d w0 wr R (by omega) S1.out (by omega) (by omega) (by omega) (by omega)
          have hd1 : Hid (∀ d1 : Array α, PermIn j e d d1 → (∀ x, d1[x]! = rotN j m e (fun x => d[x]!) x) → d1.size = d.size ∧ d0.size = d1.size) := fun d1 p _ => ⟨p.1, by rw [p.1]; exact hs⟩
          clear S1
          by_cases c2 : a < j ∧ j < mid
          · obtain ⟨c2a, c2b⟩ := c2
            have c2z : (a : Int) < (j : Int) := by omega
            have c2y : (j : Int) < (mid : Int) := by omega
            have c2d : decide ((a : Int) < (j : Int)) = true := decide_eq_true c2z
            have c2e : decide ((j : Int) < (mid : Int)) = true := decide_eq_true c2y
            by_cases c3 : mid < e ∧ e < b
            · obtain ⟨c3a, c3b⟩ := c3
              have c3z : (mid : Int) < (e : Int) := by omega
              have c3y : (e : Int) < (b : Int) := by omega
              have c3d : decide ((mid : Int) < (e : Int)) = true := decide_eq_true c3z
              have c3e : decide ((e : Int) < (b : Int)) = true := decide_eq_true c3y
              go_wp2_with (first
                | (go_at_fn 87; refine hrot.mono ?_; rintro e1 w1 ⟨rfl, d1, S2, P1, X1⟩; have S3 : Aside (SWK enc k w0 blk off d1 w1) := S2; have P1 : Hid (PermIn j e d d1) := P1; have X1 : Hid (∀ x, d1[x]! = rotN j m e (fun x => d[x]!) x) := X1; have hz1 := hd1.out d1 P1.out X1.out; clear S2)
                | (go_at_fn 68; have hcal := IH.out a j mid d1 w1 (by omega) c2a c2b (by have hzz := P1.out.1; omega) (by have hzz := P1.out.1; omega) S3.out (CUT.out.1.rot X1.out).1 (CUT.out.2 ▸ (CUT.out.1.rot X1.out).2.1); unfold SymSaid at hcal; rw [show d1.size = d.size from P1.out.1] at hcal; refine hcal.mono ?_; clear hcal; rintro e2 w2 ⟨rfl, d2, S4, P2, Y2⟩; have S5 : Aside (SWK enc k w0 blk off d2 w2) := S4; have P2 : Hid (PermIn a mid d1 d2) := P2; have Y2 : Hid (SortedIn (ltOf cf) a mid d2) := Y2; clear S4)
                | (go_at_fn 68; have hzs : d2.size = d.size := (P2.out.1.trans P1.out.1); have hcal := IH.out mid e b d2 w2 (by omega) c3a c3b (by omega) (by omega) S5.out (sorted_out P2.out (CUT.out.2 ▸ (CUT.out.1.rot X1.out).2.2.1 : SortedIn (ltOf cf) mid e d1) (.inl (Nat.le_refl _))) (sorted_out P2.out (CUT.out.1.rot X1.out).2.2.2.1 (.inl (by omega))); unfold SymSaid at hcal; rw [hzs] at hcal; refine hcal.mono ?_; clear hcal hzs; rintro e3 w3 ⟨rfl, d3, S6, P3, Y3⟩; have S7 : Aside (SWK enc k w0 blk off d3 w3) := S6; have P3 : Hid (PermIn mid b d2 d3) := P3; have Y3 : Hid (SortedIn (ltOf cf) mid b d3) := Y3; clear S6)
                )
              all_goals go_end0
              all_goals exact ⟨rfl, d3, S7.out, sym_done CUT.out.1 CUT.out.2 hb P1.out X1.out (.inl ⟨c2a, c2b, P2.out, Y2.out⟩) (.inl ⟨c3a, c3b, P3.out, Y3.out⟩)⟩
            · have c3d : (decide ((mid : Int) < (e : Int)) && decide ((e : Int) < (b : Int))) = false := by rw [Bool.and_eq_false_iff, decide_eq_false_iff_not, decide_eq_false_iff_not]; omega
              have c3z : (mid : Int) < (e : Int) → ¬ (e : Int) < (b : Int) := by omega
              go_wp2_with (first
                | (go_at_fn 87; refine hrot.mono ?_; rintro e1 w1 ⟨rfl, d1, S2, P1, X1⟩; have S3 : Aside (SWK enc k w0 blk off d1 w1) := S2; have P1 : Hid (PermIn j e d d1) := P1; have X1 : Hid (∀ x, d1[x]! = rotN j m e (fun x => d[x]!) x) := X1; have hz1 := hd1.out d1 P1.out X1.out; clear S2)
                | (go_at_fn 68; have hcal := IH.out a j mid d1 w1 (by omega) c2a c2b (by have hzz := P1.out.1; omega) (by have hzz := P1.out.1; omega) S3.out (CUT.out.1.rot X1.out).1 (CUT.out.2 ▸ (CUT.out.1.rot X1.out).2.1); unfold SymSaid at hcal; rw [show d1.size = d.size from P1.out.1] at hcal; refine hcal.mono ?_; clear hcal; rintro e2 w2 ⟨rfl, d2, S4, P2, Y2⟩; have S5 : Aside (SWK enc k w0 blk off d2 w2) := S4; have P2 : Hid (PermIn a mid d1 d2) := P2; have Y2 : Hid (SortedIn (ltOf cf) a mid d2) := Y2; clear S4)
                )
              all_goals go_end0
              all_goals exact ⟨rfl, d2, S5.out, sym_done CUT.out.1 CUT.out.2 hb P1.out X1.out (.inl ⟨c2a, c2b, P2.out, Y2.out⟩) (.inr ⟨c3, rfl⟩)⟩
          · have c2d : (decide ((a : Int) < (j : Int)) && decide ((j : Int) < (mid : Int))) = false := by rw [Bool.and_eq_false_iff, decide_eq_false_iff_not, decide_eq_false_iff_not]; omega
            have c2z : (a : Int) < (j : Int) → ¬ (j : Int) < (mid : Int) := by omega
            by_cases c3 : mid < e ∧ e < b
            · obtain ⟨c3a, c3b⟩ := c3
              have c3z : (mid : Int) < (e : Int) := by omega
              have c3y : (e : Int) < (b : Int) := by omega
              have c3d : decide ((mid : Int) < (e : Int)) = true := decide_eq_true c3z
              have c3e : decide ((e : Int) < (b : Int)) = true := decide_eq_true c3y
              go_wp2_with (first
                | (go_at_fn 87; refine hrot.mono ?_; rintro e1 w1 ⟨rfl, d1, S2, P1, X1⟩; have S3 : Aside (SWK enc k w0 blk off d1 w1) := S2; have P1 : Hid (PermIn j e d d1) := P1; have X1 : Hid (∀ x, d1[x]! = rotN j m e (fun x => d[x]!) x) := X1; have hz1 := hd1.out d1 P1.out X1.out; clear S2)
                | (go_at_fn 68; have hzs : d1.size = d.size := P1.out.1; have hcal := IH.out mid e b d1 w1 (by omega) c3a c3b (by omega) (by omega) S3.out (CUT.out.2 ▸ (CUT.out.1.rot X1.out).2.2.1) (CUT.out.1.rot X1.out).2.2.2.1; unfold SymSaid at hcal; rw [hzs] at hcal; refine hcal.mono ?_; clear hcal hzs; rintro e3 w3 ⟨rfl, d3, S6, P3, Y3⟩; have S7 : Aside (SWK enc k w0 blk off d3 w3) := S6; have P3 : Hid (PermIn mid b d1 d3) := P3; have Y3 : Hid (SortedIn (ltOf cf) mid b d3) := Y3; clear S6)
                )
              all_goals go_end0
              all_goals exact ⟨rfl, d3, S7.out, sym_done CUT.out.1 CUT.out.2 hb P1.out X1.out (.inr ⟨c2, rfl⟩) (.inl ⟨c3a, c3b, P3.out, Y3.out⟩)⟩
            · have c3d : (decide ((mid : Int) < (e : Int)) && decide ((e : Int) < (b : Int))) = false := by rw [Bool.and_eq_false_iff, decide_eq_false_iff_not, decide_eq_false_iff_not]; omega
              have c3z : (mid : Int) < (e : Int) → ¬ (e : Int) < (b : Int) := by omega
              go_wp2_with (go_at_fn 87; refine hrot.mono ?_; rintro e1 w1 ⟨rfl, d1, S2, P1, X1⟩; have S3 : Aside (SWK enc k w0 blk off d1 w1) := S2; have P1 : Hid (PermIn j e d d1) := P1; have X1 : Hid (∀ x, d1[x]! = rotN j m e (fun x => d[x]!) x) := X1; have hz1 := hd1.out d1 P1.out X1.out; clear S2)
              all_goals go_end0
              all_goals exact ⟨rfl, d1, S3.out, sym_done CUT.out.1 CUT.out.2 hb P1.out X1.out (.inr ⟨c2, rfl⟩) (.inr ⟨c3, rfl⟩)⟩
        · have P1 : Hid (PermIn j e d d) := permIn_refl _ _ _
          have X1 : Hid (∀ x, d[x]! = rotN j m e (fun x => d[x]!) x) := fun x => by
            by_cases cc : j = m
            · rw [cc, rotN_none]
            · rw [show e = m by omega, rotN_end]
          have c1d : (decide ((j : Int) < (m : Int)) && decide ((m : Int) < (e : Int))) = false := by rw [Bool.and_eq_false_iff, decide_eq_false_iff_not, decide_eq_false_iff_not]; omega
          have c1z : (j : Int) < (m : Int) → ¬ (m : Int) < (e : Int) := by omega
          by_cases c2 : a < j ∧ j < mid
          · obtain ⟨c2a, c2b⟩ := c2
            have c2z : (a : Int) < (j : Int) := by omega
            have c2y : (j : Int) < (mid : Int) := by omega
            have c2d : decide ((a : Int) < (j : Int)) = true := decide_eq_true c2z
            have c2e : decide ((j : Int) < (mid : Int)) = true := decide_eq_true c2y
            by_cases c3 : mid < e ∧ e < b
            · obtain ⟨c3a, c3b⟩ := c3
              have c3z : (mid : Int) < (e : Int) := by omega
              have c3y : (e : Int) < (b : Int) := by omega
              have c3d : decide ((mid : Int) < (e : Int)) = true := decide_eq_true c3z
              have c3e : decide ((e : Int) < (b : Int)) = true := decide_eq_true c3y
              go_wp2_with (first
                | (go_at_fn 68; have hcal := IH.out a j mid d wr (by omega) c2a c2b (by have hzz := P1.out.1; omega) (by have hzz := P1.out.1; omega) S1.out (CUT.out.1.rot X1.out).1 (CUT.out.2 ▸ (CUT.out.1.rot X1.out).2.1); unfold SymSaid at hcal; rw [show d.size = d.size from P1.out.1] at hcal; refine hcal.mono ?_; clear hcal; rintro e2 w2 ⟨rfl, d2, S4, P2, Y2⟩; have S5 : Aside (SWK enc k w0 blk off d2 w2) := S4; have P2 : Hid (PermIn a mid d d2) := P2; have Y2 : Hid (SortedIn (ltOf cf) a mid d2) := Y2; clear S4)
                | (go_at_fn 68; have hzs : d2.size = d.size := (P2.out.1.trans P1.out.1); have hcal := IH.out mid e b d2 w2 (by omega) c3a c3b (by omega) (by omega) S5.out (sorted_out P2.out (CUT.out.2 ▸ (CUT.out.1.rot X1.out).2.2.1 : SortedIn (ltOf cf) mid e d) (.inl (Nat.le_refl _))) (sorted_out P2.out (CUT.out.1.rot X1.out).2.2.2.1 (.inl (by omega))); unfold SymSaid at hcal; rw [hzs] at hcal; refine hcal.mono ?_; clear hcal hzs; rintro e3 w3 ⟨rfl, d3, S6, P3, Y3⟩; have S7 : Aside (SWK enc k w0 blk off d3 w3) := S6; have P3 : Hid (PermIn mid b d2 d3) := P3; have Y3 : Hid (SortedIn (ltOf cf) mid b d3) := Y3; clear S6)
                )
              all_goals go_end0
              all_goals exact ⟨rfl, d3, S7.out, sym_done CUT.out.1 CUT.out.2 hb P1.out X1.out (.inl ⟨c2a, c2b, P2.out, Y2.out⟩) (.inl ⟨c3a, c3b, P3.out, Y3.out⟩)⟩
            · have c3d : (decide ((mid : Int) < (e : Int)) && decide ((e : Int) < (b : Int))) = false := by rw [Bool.and_eq_false_iff, decide_eq_false_iff_not, decide_eq_false_iff_not]; omega
              have c3z : (mid : Int) < (e : Int) → ¬ (e : Int) < (b : Int) := by omega
              go_wp2_with (go_at_fn 68; have hcal := IH.out a j mid d wr (by omega) c2a c2b (by have hzz := P1.out.1; omega) (by have hzz := P1.out.1; omega) S1.out (CUT.out.1.rot X1.out).1 (CUT.out.2 ▸ (CUT.out.1.rot X1.out).2.1); unfold SymSaid at hcal; rw [show d.size = d.size from P1.out.1] at hcal; refine hcal.mono ?_; clear hcal; rintro e2 w2 ⟨rfl, d2, S4, P2, Y2⟩; have S5 : Aside (SWK enc k w0 blk off d2 w2) := S4; have P2 : Hid (PermIn a mid d d2) := P2; have Y2 : Hid (SortedIn (ltOf cf) a mid d2) := Y2; clear S4)
              all_goals go_end0
              all_goals exact ⟨rfl, d2, S5.out, sym_done CUT.out.1 CUT.out.2 hb P1.out X1.out (.inl ⟨c2a, c2b, P2.out, Y2.out⟩) (.inr ⟨c3, rfl⟩)⟩
          · have c2d : (decide ((a : Int) < (j : Int)) && decide ((j : Int) < (mid : Int))) = false := by rw [Bool.and_eq_false_iff, decide_eq_false_iff_not, decide_eq_false_iff_not]; omega
            have c2z : (a : Int) < (j : Int) → ¬ (j : Int) < (mid : Int) := by omega
            by_cases c3 : mid < e ∧ e < b
            · obtain ⟨c3a, c3b⟩ := c3
              have c3z : (mid : Int) < (e : Int) := by omega
              have c3y : (e : Int) < (b : Int) := by omega
              have c3d : decide ((mid : Int) < (e : Int)) = true := decide_eq_true c3z
              have c3e : decide ((e : Int) < (b : Int)) = true := decide_eq_true c3y
              go_wp2_with (go_at_fn 68; have hzs : d.size = d.size := P1.out.1; have hcal := IH.out mid e b d wr (by omega) c3a c3b (by omega) (by omega) S1.out (CUT.out.2 ▸ (CUT.out.1.rot X1.out).2.2.1) (CUT.out.1.rot X1.out).2.2.2.1; unfold SymSaid at hcal; rw [hzs] at hcal; refine hcal.mono ?_; clear hcal hzs; rintro e3 w3 ⟨rfl, d3, S6, P3, Y3⟩; have S7 : Aside (SWK enc k w0 blk off d3 w3) := S6; have P3 : Hid (PermIn mid b d d3) := P3; have Y3 : Hid (SortedIn (ltOf cf) mid b d3) := Y3; clear S6)
              all_goals go_end0
              all_goals exact ⟨rfl, d3, S7.out, sym_done CUT.out.1 CUT.out.2 hb P1.out X1.out (.inr ⟨c2, rfl⟩) (.inl ⟨c3a, c3b, P3.out, Y3.out⟩)⟩
            · have c3d : (decide ((mid : Int) < (e : Int)) && decide ((e : Int) < (b : Int))) = false := by rw [Bool.and_eq_false_iff, decide_eq_false_iff_not, decide_eq_false_iff_not]; omega
              have c3z : (mid : Int) < (e : Int) → ¬ (e : Int) < (b : Int) := by omega
              go_wp2_with fail
              all_goals go_end0
              all_goals exact ⟨rfl, d, S1.out, sym_done CUT.out.1 CUT.out.2 hb P1.out X1.out (.inr ⟨c2, rfl⟩) (.inr ⟨c3, rfl⟩)⟩
theorem sym_all (L : StP P k) (enc : α → List Value) (cf : α → α → Int) (g : Nat) (cb : Array Value) (blk off cap : Nat) (d0 : Array α) (w0 : World)
    (eg : ∀ args w, (callFunc g args).run P w = .ok (.enter g args) w) (hcmp : CmpLays P g cb enc k cf blk off d0.size w0) (SO : SWO (ltOf cf)) (R : RowK enc k w0 blk off d0) (hsz : d0.size < 4611686018427387904) :
    ∀ N, SymAt P enc cf k g cb blk off cap d0 w0 N
  | 0 => fun a m b d w h1 h2 h3 => by omega
  | N + 1 => fun a m b d w hN ham hmb hb hs S hl hr => by
    by_cases h1 : m = a + 1
    · exact sym_one L enc cf g cb blk off cap a m b d0 d w0 w eg hcmp SO R hs S ham hmb hb (by omega) hl hr h1
    · by_cases h2 : b = m + 1
      · exact sym_last L enc cf g cb blk off cap a m b d0 d w0 w eg hcmp SO R hs S ham hmb hb (by omega) hl hr h1 h2
      · exact sym_many L enc cf g cb blk off cap a m b d0 d w0 w eg hcmp SO R hs S ham hmb hb (by omega) hl hr h1 h2 (fun a' m' b' d' w' h => sym_all L enc cf g cb blk off cap d0 w0 eg hcmp SO R hsz N a' m' b' d' w' (by omega))
end Go.Proofs.YtmnblgaefdahhaaGreatDoor

/- slices.SortStableFunc at values: rows of twenty sorted, then merged two by two. -/
set_option linter.unusedVariables false
set_option linter.unusedSimpArgs false
namespace Go.Proofs.YtmnblgaefdahhaaGreatDoor
open Go.Shelf Go.RowKit Go.Lib Go.Sort
section
variable {α : Type} [Inhabited α] {lt : α → α → Bool}
/-- Each row of bs members is sorted, the last one too, which may be shorter. -/
def AllS (lt : α → α → Bool) (bs n : Nat) (d : Array α) : Prop := ∀ t, SortedIn lt (t * bs) (min (t * bs + bs) n) d
/-- The first q rows of twice bs members are sorted, and behind them the rows of bs. -/
def MixS (lt : α → α → Bool) (bs n q : Nat) (d : Array α) : Prop := (∀ t, t < q → SortedIn lt (t * (2 * bs)) (t * (2 * bs) + 2 * bs) d) ∧ ∀ t, 2 * q ≤ t → SortedIn lt (t * bs) (min (t * bs + bs) n) d
def BlkS (lt : α → α → Bool) (q : Nat) (d : Array α) : Prop := ∀ t, t < q → SortedIn lt (t * 20) (t * 20 + 20) d
theorem blkS_next {q : Nat} {d d' : Array α} (h : BlkS lt q d) (p : PermIn (q * 20) (q * 20 + 20) d d') (s : SortedIn lt (q * 20) (q * 20 + 20) d') : BlkS lt (q + 1) d' := by
  intro t ht
  by_cases e : t = q
  · rw [e]; exact s
  · exact sorted_out p (h t (by omega)) (.inr (by omega))
theorem blkS_end {q n : Nat} {d d' : Array α} (h : BlkS lt q d) (h1 : q * 20 ≤ n) (h2 : n < q * 20 + 20) (p : PermIn (q * 20) n d d') (s : SortedIn lt (q * 20) n d') : AllS lt 20 n d' := by
  intro t
  by_cases e : t < q
  · rw [Nat.min_eq_left (by omega)]
    exact sorted_out p (h t e) (.inr (by omega))
  · by_cases e2 : t = q
    · subst e2
      rw [Nat.min_eq_right (by omega)]
      exact s
    · intro x y hx hxy hy
      have := Nat.min_le_right (t * 20 + 20) n
      omega
theorem mixS_start {bs n : Nat} {d : Array α} (h : AllS lt bs n d) : MixS lt bs n 0 d := ⟨fun t ht => absurd ht (Nat.not_lt_zero _), fun t _ => h t⟩
theorem mixS_two {bs n q A : Nat} {d : Array α} (h : MixS lt bs n q d) (hA : A = q * (2 * bs)) : SortedIn lt A (min (A + bs) n) d ∧ SortedIn lt (A + bs) (min (A + bs + bs) n) d := by
  have e1 : (2 * q) * bs = A := by rw [hA, Nat.mul_comm 2 q, Nat.mul_assoc]
  have h1 := h.2 (2 * q) (Nat.le_refl _)
  have h2 := h.2 (2 * q + 1) (by omega)
  rw [e1] at h1
  rw [Nat.add_mul, Nat.one_mul, e1] at h2
  exact ⟨h1, h2⟩
theorem mixS_next {bs n q A : Nat} {d d' : Array α} (h : MixS lt bs n q d) (hA : A = q * (2 * bs)) (p : PermIn A (A + 2 * bs) d d') (s : SortedIn lt A (A + 2 * bs) d') : MixS lt bs n (q + 1) d' := by
  refine ⟨fun t ht => ?_, fun t ht => ?_⟩
  · by_cases e : t = q
    · rw [e, ← hA]; exact s
    · have h1 := Nat.mul_le_mul_right (2 * bs) (show t + 1 ≤ q by omega)
      rw [Nat.add_mul, Nat.one_mul, ← hA] at h1
      exact sorted_out p (h.1 t (by omega)) (.inr (by omega))
  · have h1 := Nat.mul_le_mul_right bs (show 2 * q + 2 ≤ t by omega)
    rw [Nat.add_mul, Nat.mul_comm 2 q, Nat.mul_assoc, ← hA] at h1
    exact sorted_out p (h.2 t (by omega)) (.inl (by omega))
theorem mixS_end {bs n q A : Nat} {d d' : Array α} (h : MixS lt bs n q d) (hA : A = q * (2 * bs)) (h1 : A ≤ n) (h2 : n < A + 2 * bs) (hd : (A + bs < n ∧ PermIn A n d d' ∧ SortedIn lt A n d') ∨ (¬ A + bs < n ∧ d' = d)) : AllS lt (2 * bs) n d' := by
  have k : SortedIn lt A n d' ∧ ∀ a b, b ≤ A → SortedIn lt a b d → SortedIn lt a b d' := by
    rcases hd with ⟨_, p, s⟩ | ⟨hn, rfl⟩
    · exact ⟨s, fun a b hb hs => sorted_out p hs (.inr hb)⟩
    · have := (mixS_two h hA).1
      rw [Nat.min_eq_right (by omega)] at this
      exact ⟨this, fun a b _ hs => hs⟩
  intro t
  by_cases e : t < q
  · have h3 := Nat.mul_le_mul_right (2 * bs) (show t + 1 ≤ q by omega)
    rw [Nat.add_mul, Nat.one_mul, ← hA] at h3
    rw [Nat.min_eq_left (by omega)]
    exact k.2 _ _ h3 (h.1 t e)
  · by_cases e2 : t = q
    · subst e2
      rw [← hA, Nat.min_eq_right (by omega)]
      exact k.1
    · intro x y hx hxy hy
      have h3 := Nat.mul_le_mul_right (2 * bs) (show q + 1 ≤ t by omega)
      rw [Nat.add_mul, Nat.one_mul, ← hA] at h3
      have := Nat.min_le_right (t * (2 * bs) + 2 * bs) n
      omega
theorem allS_done {bs n : Nat} {d : Array α} (h : AllS lt bs n d) (hn : n ≤ bs) : SortedIn lt 0 n d := by
  have := h 0
  rw [Nat.zero_mul, Nat.zero_add, Nat.min_eq_right hn] at this
  exact this
end
variable {P : Program} {k : Nat} {α : Type} [Inhabited α]
/-- The contract of insertionSort, from a world of the sort's. -/
def InsAt (P : Program) (enc : α → List Value) (cf : α → α → Int) (k : Nat) (g : Nat) (cb : Array Value) (blk off cap : Nat) (d0 : Array α) (w0 : World) : Prop :=
  ∀ (a b : Nat) (d : Array α) (w : World), a ≤ b → b ≤ d.size → d0.size = d.size → SWK enc k w0 blk off d w →
    Calls P 67 #[.slice (some ⟨blk, off, none⟩) d.size cap, .int .i64 a, .int .i64 b, .func (.func g) #[] cb] w fun e w' =>
      e = .returned (.tuple #[]) ∧ ∃ d', SWK enc k w0 blk off d' w' ∧ PermIn a b d d' ∧ SortedIn (ltOf cf) a b d'
theorem sorted_min {lt : α → α → Bool} {a x n : Nat} {d : Array α} (h : SortedIn lt a (min x n) d) (hx : x ≤ n) : SortedIn lt a x d := by
  rwa [Nat.min_eq_left hx] at h
theorem sorted_min' {lt : α → α → Bool} {a x n : Nat} {d : Array α} (h : SortedIn lt a (min x n) d) (hx : n ≤ x) : SortedIn lt a n d := by
  rwa [Nat.min_eq_right hx] at h
set_option maxHeartbeats 16000000 in
set_option maxRecDepth 1000000 in
theorem stable_calls (L : StP P k) (enc : α → List Value) (cf : α → α → Int) (g : Nat) (cb : Array Value) (blk off cap : Nat) (d0 d : Array α) (w0 w : World)
    (eg : ∀ args w, (callFunc g args).run P w = .ok (.enter g args) w) (hcmp : CmpLays P g cb enc k cf blk off d0.size w0) (SO : SWO (ltOf cf)) (R : RowK enc k w0 blk off d0) (hs : d0.size = d.size) (S : SWK enc k w0 blk off d w)
    (hsz : d.size ≤ 65536) (ins : InsAt P enc cf k g cb blk off cap d0 w0) :
    Calls P 46 #[.slice (some ⟨blk, off, none⟩) d.size cap, .int .i64 d.size, .func (.func g) #[] cb] w fun e w' =>
      e = .returned (.tuple #[]) ∧ ∃ d', SWK enc k w0 blk off d' w' ∧ PermIn 0 d.size d d' ∧ SortedIn (ltOf cf) 0 d.size d' := by
  have mixed := L.mixed; have t0 := L.t0; have a0 := L.a0; have z0 := L.z0; have v0 := L.v0; have t3 := L.t3; have a3 := L.a3; have z3 := L.z3; have v3 := L.v3; have t4 := L.t4; have a4 := L.a4; have z4 := L.z4; have v4 := L.v4
  have t80 := L.t80; have a80 := L.a80; have z80 := L.z80; have v80 := L.v80; have t87 := L.t87; have a87 := L.a87; have z87 := L.z87; have v87 := L.v87; have aE := L.aE; have zE := L.zE; have t114 := L.t114; have a114 := L.a114; have z114 := L.z114; have v114 := L.v114
  have S0 : Aside (SWK enc k w0 blk off d w) := S
  have FG := L.f_stab
  have e121 := L.e_ins
  have e122 := L.e_sym
  have INS : Hid _ := ins
  have SYM : Hid _ := sym_all L enc cf g cb blk off cap d0 w0 eg hcmp SO R (by omega) d.size
  obtain ⟨n, hn⟩ : ∃ n, n = d.size := ⟨_, rfl⟩
  have hsn : d0.size = n := by rw [hs, hn]
  rw [← hn] at hsz SYM ⊢
  have hds0 : Hid (d.size = n) := hn.symm
  clear S hcmp ins hn
  go_enter FG, Tryz.ntmps46
  go_wp2
  go_loopg [7, 8] n (fun kx s7 s8 wr => ∃ (q A : Nat) (dk : Array α), s7 = .int .i64 A ∧ s8 = .int .i64 ((A : Int) + 20) ∧ A ≤ n ∧ n - A ≤ kx ∧ Hid (A = q * 20) ∧ Hid (dk.size = n) ∧ Aside (SWK enc k w0 blk off dk wr) ∧ Hid (PermIn 0 n d dk) ∧ Hid (BlkS (ltOf cf) q dk))
  case atStart => exact ⟨0, 0, d, rfl, rfl, Nat.zero_le _, by omega, (Nat.zero_mul _).symm, hds0, S0, permIn_refl _ _ _, fun t ht => absurd ht (Nat.not_lt_zero _)⟩
  case round =>
    clear S0
    obtain ⟨q, A, dk, rfl, rfl, hAn, hkx, HA, HZ, S1, HP, HB⟩ := hrel
    by_cases hlt : A + 20 ≤ n
    · have hltz : (A : Int) + 20 ≤ (n : Int) := by omega
      have hltd : decide ((A : Int) + 20 ≤ (n : Int)) = true := decide_eq_true hltz
      have hcall := INS.out A (A + 20) dk wr (by omega) (by rw [HZ.out]; exact hlt) (by rw [HZ.out]; exact hsn) S1.out
      rw [HZ.out, show ((A + 20 : Nat) : Int) = (A : Int) + 20 by omega] at hcall
      clear S1
      go_wp2_with (go_at_fn 67; refine hcall.mono ?_; rintro e w1 ⟨rfl, d2, S2, P2, Y2⟩; have S2 : Aside (SWK enc k w0 blk off d2 w1) := S2; have P2 : Hid (PermIn A (A + 20) dk d2) := P2; have Y2 : Hid (SortedIn (ltOf cf) A (A + 20) d2) := Y2)
      go_roundg (n - (A + 20))
      case measure => omega
      case rel =>
        exact ⟨q + 1, A + 20, d2, by go_num, by rw [show ((A + 20 : Nat) : Int) = (A : Int) + 20 by omega], hlt, Nat.le_refl _, (show A + 20 = (q + 1) * 20 by have := HA.out; omega), P2.out.1.trans HZ.out, S2,
          permIn_trans _ _ _ _ _ HP.out (permIn_mono _ _ _ _ _ _ (Nat.zero_le _) hlt (by rw [HZ.out]; exact Nat.le_refl _) P2.out), blkS_next HB.out (HA.out ▸ P2.out) (HA.out ▸ Y2.out)⟩
    · have hltz : ¬ (A : Int) + 20 ≤ (n : Int) := by omega
      have hltd : decide ((A : Int) + 20 ≤ (n : Int)) = false := decide_eq_false hltz
      have hcall := INS.out A n dk wr hAn (by rw [HZ.out]; exact Nat.le_refl _) (by rw [HZ.out]; exact hsn) S1.out
      rw [HZ.out] at hcall
      clear S1 INS
      go_wp2_with (go_at_fn 67; refine hcall.mono ?_; rintro e w1 ⟨rfl, d2, S2, P2, Y2⟩; have S2 : Aside (SWK enc k w0 blk off d2 w1) := S2; have Z2 : Hid (d2.size = n) := P2.1.trans HZ.out; have P3 : Hid (PermIn 0 n d d2) := permIn_trans _ _ _ _ _ HP.out (permIn_mono _ _ _ _ _ _ (Nat.zero_le _) (Nat.le_refl _) (by rw [HZ.out]; exact Nat.le_refl _) P2); have B3 : Hid (AllS (ltOf cf) 20 n d2) := blkS_end HB.out (by have := HA.out; omega) (by have := HA.out; omega) (HA.out ▸ P2) (HA.out ▸ Y2); clear P2 Y2)
      clear hcall HP HB HZ
      go_loopg [6, 7, 8] n (fun kx s6 s7 s8 wr => ∃ (bs : Nat) (dk : Array α) (v7 v8 : Value), s6 = .int .i64 bs ∧ s7 = v7 ∧ s8 = v8 ∧ 20 ≤ bs ∧ bs ≤ 2 * n + 20 ∧ n - bs ≤ kx ∧ Hid (dk.size = n) ∧ Aside (SWK enc k w0 blk off dk wr) ∧ Hid (PermIn 0 n d dk) ∧ Hid (AllS (ltOf cf) bs n dk))
      case atStart => exact ⟨20, d2, _, _, rfl, rfl, rfl, Nat.le_refl _, by omega, by omega, Z2, S2, P3, B3⟩
      case round =>
        clear S2 P3 B3 Z2
        obtain ⟨bs, dk, v7, v8, rfl, rfl, rfl, hb20, hb2, hkx, HZ, S1, HP, HB⟩ := hrel
        by_cases hlb : bs < n
        · have hlbz : (bs : Int) < (n : Int) := by omega
          have hlbd : decide ((bs : Int) < (n : Int)) = true := decide_eq_true hlbz
          go_wp2
          go_loopg [7, 8] n (fun kx s7 s8 wr => ∃ (q A : Nat) (dk : Array α), s7 = .int .i64 A ∧ s8 = .int .i64 ((A : Int) + 2 * (bs : Int)) ∧ A ≤ n ∧ n - A ≤ kx ∧ Hid (A = q * (2 * bs)) ∧ Hid (dk.size = n) ∧ Aside (SWK enc k w0 blk off dk wr) ∧ Hid (PermIn 0 n d dk) ∧ Hid (MixS (ltOf cf) bs n q dk))
          case atStart => exact ⟨0, 0, dk, rfl, by simp, Nat.zero_le _, by omega, (Nat.zero_mul _).symm, HZ, S1, HP, mixS_start HB.out⟩
          case round =>
            clear S1 HP HB HZ
            obtain ⟨q, A, dj, rfl, rfl, hAn2, hkx2, HA2, HZ, S1, HP, HM⟩ := hrel
            by_cases hle : A + 2 * bs ≤ n
            · have hlez : (A : Int) + 2 * (bs : Int) ≤ (n : Int) := by omega
              have hled : decide ((A : Int) + 2 * (bs : Int) ≤ (n : Int)) = true := decide_eq_true hlez
              have hcall := SYM.out A (A + bs) (A + 2 * bs) dj wr (by omega) (by omega) (by omega) (by rw [HZ.out]; exact hle) (by rw [HZ.out]; exact hsn) S1.out (sorted_min (mixS_two HM.out HA2.out).1 (by omega)) (by have h := (mixS_two HM.out HA2.out).2; rw [Nat.add_assoc, ← Nat.two_mul] at h; exact sorted_min h hle)
              unfold SymSaid at hcall
              rw [HZ.out, show ((A + bs : Nat) : Int) = (A : Int) + (bs : Int) by omega, show ((A + 2 * bs : Nat) : Int) = (A : Int) + 2 * (bs : Int) by omega] at hcall
              clear S1
              go_wp2_with (go_at_fn 68; refine hcall.mono ?_; rintro e w1 ⟨rfl, d2, S2, P2, Y2⟩; have S2 : Aside (SWK enc k w0 blk off d2 w1) := S2; have P2 : Hid (PermIn A (A + 2 * bs) dj d2) := P2; have Y2 : Hid (SortedIn (ltOf cf) A (A + 2 * bs) d2) := Y2)
              go_roundg (n - (A + 2 * bs))
              case measure => omega
              case rel =>
                exact ⟨q + 1, A + 2 * bs, d2, by go_num, by rw [show ((A + 2 * bs : Nat) : Int) = (A : Int) + 2 * (bs : Int) by omega], hle, Nat.le_refl _, (show A + 2 * bs = (q + 1) * (2 * bs) by rw [Nat.add_mul, Nat.one_mul, ← HA2.out]), P2.out.1.trans HZ.out, S2,
                  permIn_trans _ _ _ _ _ HP.out (permIn_mono _ _ _ _ _ _ (Nat.zero_le _) hle (by rw [HZ.out]; exact Nat.le_refl _) P2.out), mixS_next HM.out HA2.out P2.out Y2.out⟩
            · have hlez : ¬ (A : Int) + 2 * (bs : Int) ≤ (n : Int) := by omega
              have hled : decide ((A : Int) + 2 * (bs : Int) ≤ (n : Int)) = false := decide_eq_false hlez
              by_cases hm : A + bs < n
              · have hmz : (A : Int) + (bs : Int) < (n : Int) := by omega
                have hmd : decide ((A : Int) + (bs : Int) < (n : Int)) = true := decide_eq_true hmz
                have hcall := SYM.out A (A + bs) n dj wr (by omega) (by omega) (by omega) (by rw [HZ.out]; exact Nat.le_refl _) (by rw [HZ.out]; exact hsn) S1.out (sorted_min (mixS_two HM.out HA2.out).1 (by omega)) (by have h := (mixS_two HM.out HA2.out).2; rw [Nat.add_assoc, ← Nat.two_mul] at h; exact sorted_min' h (by omega))
                unfold SymSaid at hcall
                rw [HZ.out, show ((A + bs : Nat) : Int) = (A : Int) + (bs : Int) by omega] at hcall
                clear S1
                go_wp2_with (go_at_fn 68; refine hcall.mono ?_; rintro e w1 ⟨rfl, d2, S2, P2, Y2⟩; have S2 : Aside (SWK enc k w0 blk off d2 w1) := S2; have P2 : Hid (PermIn A n dj d2) := P2; have Y2 : Hid (SortedIn (ltOf cf) A n d2) := Y2)
                go_roundg (n - 2 * bs)
                case measure => omega
                case rel =>
                  exact ⟨2 * bs, d2, _, _, by first | go_num | (rw [show ((2 * bs : Nat) : Int) = (bs : Int) * 2 by omega]), rfl, rfl, by omega, by omega, Nat.le_refl _, P2.out.1.trans HZ.out, S2,
                    permIn_trans _ _ _ _ _ HP.out (permIn_mono _ _ _ _ _ _ (Nat.zero_le _) (Nat.le_refl _) (by rw [HZ.out]; exact Nat.le_refl _) P2.out), mixS_end HM.out HA2.out hAn2 (by omega) (.inl ⟨hm, P2.out, Y2.out⟩)⟩
              · have hmz : ¬ (A : Int) + (bs : Int) < (n : Int) := by omega
                have hmd : decide ((A : Int) + (bs : Int) < (n : Int)) = false := decide_eq_false hmz
                go_wp2
                go_roundg (n - 2 * bs)
                case measure => omega
                case rel =>
                  exact ⟨2 * bs, dj, _, _, by first | go_num | (rw [show ((2 * bs : Nat) : Int) = (bs : Int) * 2 by omega]), rfl, rfl, by omega, by omega, Nat.le_refl _, HZ, S1, HP, mixS_end HM.out HA2.out hAn2 (by omega) (.inr ⟨hm, rfl⟩)⟩
        · have hlbz : ¬ (bs : Int) < (n : Int) := by omega
          have hlbd : decide ((bs : Int) < (n : Int)) = false := decide_eq_false hlbz
          go_wp2
          go_end0
          exact ⟨rfl, dk, S1.out, HP.out, allS_done HB.out (by omega)⟩
set_option maxHeartbeats 4000000 in
set_option maxRecDepth 1000000 in
theorem sortStable_calls (L : StP P k) (enc : α → List Value) (cf : α → α → Int) (g : Nat) (cb : Array Value) (blk off cap : Nat) (d0 d : Array α) (w0 w : World)
    (eg : ∀ args w, (callFunc g args).run P w = .ok (.enter g args) w) (hcmp : CmpLays P g cb enc k cf blk off d0.size w0) (SO : SWO (ltOf cf)) (R : RowK enc k w0 blk off d0) (hs : d0.size = d.size) (S : SWK enc k w0 blk off d w)
    (hsz : d.size ≤ 65536) (ins : InsAt P enc cf k g cb blk off cap d0 w0) :
    Calls P 31 #[.slice (some ⟨blk, off, none⟩) d.size cap, .func (.func g) #[] cb] w fun e w' =>
      e = .returned (.tuple #[]) ∧ ∃ d', SWK enc k w0 blk off d' w' ∧ PermIn 0 d.size d d' ∧ SortedIn (ltOf cf) 0 d.size d' := by
  have mixed := L.mixed; have t0 := L.t0; have a0 := L.a0; have z0 := L.z0; have v0 := L.v0; have t3 := L.t3; have a3 := L.a3; have z3 := L.z3; have v3 := L.v3; have t4 := L.t4; have a4 := L.a4; have z4 := L.z4; have v4 := L.v4
  have t80 := L.t80; have a80 := L.a80; have z80 := L.z80; have v80 := L.v80; have t87 := L.t87; have a87 := L.a87; have z87 := L.z87; have v87 := L.v87; have aE := L.aE; have zE := L.zE; have t114 := L.t114; have a114 := L.a114; have z114 := L.z114; have v114 := L.v114
  have FG := L.f_top
  have e104 := L.e_stab
  have hcall := stable_calls L enc cf g cb blk off cap d0 d w0 w eg hcmp SO R hs S hsz ins
  clear S hcmp ins
  go_enter FG, Tryz.ntmps31
  go_wp2_with (go_at_fn 46; refine hcall.mono ?_; rintro e w1 ⟨rfl, d2, S2, P2, Y2⟩)
  go_end0
  exact ⟨rfl, d2, S2, P2, Y2⟩
end Go.Proofs.YtmnblgaefdahhaaGreatDoor
