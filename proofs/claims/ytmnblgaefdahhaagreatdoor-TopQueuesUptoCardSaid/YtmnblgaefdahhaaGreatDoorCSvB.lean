/- slices.SortStableFunc at values: two rows change places. slices.SortStableFunc at values: two sorted rows merged, where one of them has one member alone. -/
import Derived.Test.YtmnblgaefdahhaaGreatDoorProg
import Derived.Shelf.SlSortCmp.KitK
import Derived.Sort.WalkB2
import Derived.Sort.WalkB12
import Derived.Deep.LoopGhost
import Derived.Test.YtmnblgaefdahhaaGreatDoorCStA
/- slices.SortStableFunc at values: two rows change places. -/
set_option linter.unusedVariables false
set_option linter.unusedSimpArgs false
namespace Go.Proofs.YtmnblgaefdahhaaGreatDoor
open Go.Shelf Go.RowKit Go.Lib Go.Sort
/-- What the family is told of the program: its bodies, their types; the elements have k cells. -/
structure StP (P : Program) (k : Nat) : Prop where
  mixed : P.follows .mixedOrders = true
  f_swap : P.funcs[95]? = some Tryz.f95
  e_swap : ∀ args w, (callFunc 95 args).run P w = .ok (.enter 95 args) w
  f_rot : P.funcs[87]? = some Tryz.f87
  e_rot : ∀ args w, (callFunc 87 args).run P w = .ok (.enter 87 args) w
  f_sym : P.funcs[68]? = some Tryz.f68
  e_sym : ∀ args w, (callFunc 68 args).run P w = .ok (.enter 68 args) w
  f_ins : P.funcs[67]? = some Tryz.f67
  e_ins : ∀ args w, (callFunc 67 args).run P w = .ok (.enter 67 args) w
  f_stab : P.funcs[46]? = some Tryz.f46
  e_stab : ∀ args w, (callFunc 46 args).run P w = .ok (.enter 46 args) w
  f_top : P.funcs[31]? = some Tryz.f31
  e_top : ∀ args w, (callFunc 31 args).run P w = .ok (.enter 31 args) w
  t0 : P.underlying 0 = some (TypeDesc.tuple #[])
  a0 : ∀ w, (isAgg 0).run P w = .ok false w
  z0 : ∀ w, (Go.sizeOf 0).run P w = .ok 1 w
  v0 : ∀ w, (zeroValue 0).run P w = .ok (Value.tuple #[]) w
  t3 : P.underlying 3 = some (TypeDesc.int IntKind.i64)
  a3 : ∀ w, (isAgg 3).run P w = .ok false w
  z3 : ∀ w, (Go.sizeOf 3).run P w = .ok 1 w
  v3 : ∀ w, (zeroValue 3).run P w = .ok (Value.int IntKind.i64 0) w
  t4 : P.underlying 4 = some (TypeDesc.bool)
  a4 : ∀ w, (isAgg 4).run P w = .ok false w
  z4 : ∀ w, (Go.sizeOf 4).run P w = .ok 1 w
  v4 : ∀ w, (zeroValue 4).run P w = .ok (Value.bool false) w
  t80 : P.underlying 135 = some (TypeDesc.int IntKind.u64)
  a80 : ∀ w, (isAgg 135).run P w = .ok false w
  z80 : ∀ w, (Go.sizeOf 135).run P w = .ok 1 w
  v80 : ∀ w, (zeroValue 135).run P w = .ok (Value.int IntKind.u64 0) w
  t87 : P.underlying 22 = some (TypeDesc.slice 39)
  a87 : ∀ w, (isAgg 22).run P w = .ok false w
  z87 : ∀ w, (Go.sizeOf 22).run P w = .ok 1 w
  v87 : ∀ w, (zeroValue 22).run P w = .ok (Value.slice none 0 0) w
  aE : ∀ w, (isAgg 39).run P w = .ok true w
  zE : ∀ w, (Go.sizeOf 39).run P w = .ok k w
  t114 : P.underlying 41 = some (TypeDesc.func #[39, 39] #[3] false)
  a114 : ∀ w, (isAgg 41).run P w = .ok false w
  z114 : ∀ w, (Go.sizeOf 41).run P w = .ok 1 w
  v114 : ∀ w, (zeroValue 41).run P w = .ok (Value.nilFunc) w
variable {P : Program} {k : Nat} {α : Type} [Inhabited α]
set_option maxHeartbeats 4000000 in
set_option maxRecDepth 1000000 in
theorem swapRange_calls (L : StP P k) (enc : α → List Value) (g : Nat) (cb : Array Value) (blk off cap a b n : Nat) (d0 d : Array α) (w0 w : World)
    (R : RowK enc k w0 blk off d0) (hs : d0.size = d.size) (S : SWK enc k w0 blk off d w) (hab : a + n ≤ b) (hb : b + n ≤ d.size) (hsz : d.size < 4611686018427387904) :
    Calls P 95 #[.slice (some ⟨blk, off, none⟩) d.size cap, .int .i64 a, .int .i64 b, .int .i64 n, .func (.func g) #[] cb] w fun e w' =>
      e = .returned (.tuple #[]) ∧ ∃ d', SWK enc k w0 blk off d' w' ∧ PermIn a (b + n) d d' ∧ ∀ x, d'[x]! = swpN a b n (fun x => d[x]!) x := by
  have mixed := L.mixed; have t0 := L.t0; have a0 := L.a0; have z0 := L.z0; have v0 := L.v0; have t3 := L.t3; have a3 := L.a3; have z3 := L.z3; have v3 := L.v3; have t4 := L.t4; have a4 := L.a4; have z4 := L.z4; have v4 := L.v4
  have t80 := L.t80; have a80 := L.a80; have z80 := L.z80; have v80 := L.v80; have t87 := L.t87; have a87 := L.a87; have z87 := L.z87; have v87 := L.v87; have aE := L.aE; have zE := L.zE; have t114 := L.t114; have a114 := L.a114; have z114 := L.z114; have v114 := L.v114
  have S0 : Aside (SWK enc k w0 blk off d w) := S
  have FG := L.f_swap
  clear S
  go_enter FG, Tryz.ntmps95
  go_wp2
  go_loopg [10] n (fun kx s10 wr => ∃ (i : Nat) (dk : Array α), s10 = .int .i64 i ∧ i ≤ n ∧ n - i ≤ kx ∧ dk.size = d.size ∧ Aside (SWK enc k w0 blk off dk wr) ∧ Hid (PermIn a (b + n) d dk) ∧ Hid (∀ x, dk[x]! = swpN a b i (fun x => d[x]!) x))
  case atStart => exact ⟨0, d, rfl, Nat.zero_le _, Nat.le_refl _, rfl, S0, permIn_refl _ _ _, fun x => (swpN_zero _ _ _ _).symm⟩
  case round =>
    clear S0
    obtain ⟨i, dk, rfl, hi, hkx, hds, S1, HP, HX⟩ := hrel
    by_cases hlt : i < n
    · have hltz : (i : Int) < (n : Int) := by omega
      go_wp2_with fail
      have ea1 : ((a : Int) + (i : Int)).toNat = a + i := by omega
      have pa1 : (0 : Int) ≤ (a : Int) + (i : Int) := by omega
      have ba1 : (a : Int) + (i : Int) < (d.size : Int) := by omega
      have ra1 : IntKind.i64.wrap ((a : Int) + (i : Int)) = (a : Int) + (i : Int) := by rw [IntKind.wrap_i64]; omega
      have ec1 : ((b : Int) + (i : Int)).toNat = b + i := by omega
      have pc1 : (0 : Int) ≤ (b : Int) + (i : Int) := by omega
      have bc1 : (b : Int) + (i : Int) < (d.size : Int) := by omega
      have rc1 : IntKind.i64.wrap ((b : Int) + (i : Int)) = (b : Int) + (i : Int) := by rw [IntKind.wrap_i64]; omega
      have S2 : Aside (SWK enc k w0 blk off (swp dk (a + i) (b + i)) ((wr.drew.setCells blk (off + (a + i) * k) (enc dk[b + i]!)).setCells blk (off + (b + i) * k) (enc dk[a + i]!))) := S1.out.swapped R (a + i) (b + i) (by omega) (by omega)
      have l1a := S1.out.ld1 R (by omega) P (a + i) (by omega)
      have l1b := S1.out.ld1 R (by omega) P (b + i) (by omega)
      have s1a := S1.out.st1 R (by omega) P (a + i) (by omega) dk[b + i]!
      have s1b := S1.out.st2 R (by omega) P (a + i) (b + i) (by omega) (by omega) dk[b + i]! dk[a + i]!
      have n1a : (enc dk[a + i]!).length = k := R.hk _
      have n1b : (enc dk[b + i]!).length = k := R.hk _
      generalize enc dk[a + i]! = cI1 at S2 l1a s1b n1a
      generalize enc dk[b + i]! = cJ1 at S2 l1b s1a s1b n1b
      clear S1
      go_wp2_with fail
      go_big_region_o
      clear l1a l1b s1a s1b
      generalize (wr.drew.setCells blk (off + (a + i) * k) cJ1).setCells blk (off + (b + i) * k) cI1 = w2 at S2 ⊢
      go_wp2
      go_roundg (n - (i + 1))
      case measure => omega
      case rel =>
        exact ⟨i + 1, swp dk (a + i) (b + i), by go_num, by omega, Nat.le_refl _, by rw [size_swp]; exact hds, S2, permIn_trans _ _ _ _ _ HP.out (swp_permIn _ _ _ _ _ (by omega) (by omega) (by omega) (by omega) (by omega)), fun x => swpN_step (by omega) (by omega) hds HX.out x⟩
    · have hltz : ¬ (i : Int) < (n : Int) := by omega
      obtain rfl : i = n := by omega
      go_wp2
      go_end0
      exact ⟨rfl, dk, S1.out, HP.out, HX.out⟩
set_option maxHeartbeats 4000000 in
set_option maxRecDepth 1000000 in
theorem rotate_calls (L : StP P k) (enc : α → List Value) (g : Nat) (cb : Array Value) (blk off cap a m b : Nat) (d0 d : Array α) (w0 w : World)
    (R : RowK enc k w0 blk off d0) (hs : d0.size = d.size) (S : SWK enc k w0 blk off d w) (ham : a < m) (hmb : m < b) (hb : b ≤ d.size) (hsz : d.size < 4611686018427387904) :
    Calls P 87 #[.slice (some ⟨blk, off, none⟩) d.size cap, .int .i64 a, .int .i64 m, .int .i64 b, .func (.func g) #[] cb] w fun e w' =>
      e = .returned (.tuple #[]) ∧ ∃ d', SWK enc k w0 blk off d' w' ∧ PermIn a b d d' ∧ ∀ x, d'[x]! = rotN a m b (fun x => d[x]!) x := by
  have mixed := L.mixed; have t0 := L.t0; have a0 := L.a0; have z0 := L.z0; have v0 := L.v0; have t3 := L.t3; have a3 := L.a3; have z3 := L.z3; have v3 := L.v3; have t4 := L.t4; have a4 := L.a4; have z4 := L.z4; have v4 := L.v4
  have t80 := L.t80; have a80 := L.a80; have z80 := L.z80; have v80 := L.v80; have t87 := L.t87; have a87 := L.a87; have z87 := L.z87; have v87 := L.v87; have aE := L.aE; have zE := L.zE; have t114 := L.t114; have a114 := L.a114; have z114 := L.z114; have v114 := L.v114
  have S0 : Aside (SWK enc k w0 blk off d w) := S
  have FG := L.f_rot
  have e147 := L.e_swap
  have ci : ((m - a : Nat) : Int) = (m : Int) - (a : Int) := by omega
  have cj : ((b - m : Nat) : Int) = (b : Int) - (m : Int) := by omega
  clear S
  go_enter FG, Tryz.ntmps87
  go_wp2
  go_loopg [10, 11] (b - a) (fun kx s10 s11 wr => ∃ (i j : Nat) (dk : Array α), s10 = .int .i64 i ∧ s11 = .int .i64 j ∧ 0 < i ∧ 0 < j ∧ i ≤ m - a ∧ j ≤ b - m ∧ i + j ≤ kx ∧ dk.size = d.size ∧ Aside (SWK enc k w0 blk off dk wr) ∧ Hid (PermIn a b d dk) ∧ Hid (∀ x, rotN (m - i) m (m + j) (fun x => dk[x]!) x = rotN a m b (fun x => d[x]!) x))
  case atStart => exact ⟨m - a, b - m, d, by rw [ci], by rw [cj], by omega, by omega, Nat.le_refl _, Nat.le_refl _, by omega, rfl, S0, permIn_refl _ _ _, fun x => by rw [show m - (m - a) = a by omega, show m + (b - m) = b by omega]⟩
  case round =>
    clear S0 ci cj
    obtain ⟨i, j, dk, rfl, rfl, hi0, hj0, him, hjm, hkx, hds, S1, HP, HX⟩ := hrel
    have c1 : ((m - i : Nat) : Int) = (m : Int) - (i : Int) := by omega
    by_cases hij : i = j
    · subst hij
      have hij2 : ((i : Int) != (i : Int)) = false := by simp
      have hcall := swapRange_calls L enc g cb blk off cap (m - i) m i d0 dk w0 wr R (by omega) S1.out (by omega) (by omega) (by omega)
      rw [hds, c1] at hcall
      have X3 : Hid (∀ d2 : Array α, (∀ x, d2[x]! = swpN (m - i) m i (fun x => dk[x]!) x) → ∀ x, d2[x]! = rotN a m b (fun x => d[x]!) x) := fun d2 h x => by rw [h, rotN_swap i m _ (by omega)]; exact HX.out x
      have P3 : Hid (∀ d2 : Array α, PermIn (m - i) (m + i) dk d2 → PermIn a b d d2) := fun d2 h => permIn_trans _ _ _ _ _ HP.out (permIn_mono _ _ _ _ _ _ (by omega) (by omega) (by omega) h)
      clear S1 HX HP
      go_wp2_with (go_at_fn 95; refine hcall.mono ?_; rintro e w1 ⟨rfl, d2, S2, P2, X2⟩)
      go_end0
      exact ⟨rfl, d2, S2, P3.out _ P2, X3.out _ X2⟩
    · have hij1 : ((i : Int) != (j : Int)) = true := bne_iff_ne.2 (by omega)
      have hij2 : ¬ (i : Int) = (j : Int) := by omega
      by_cases hgt : j < i
      · have hg1 : (j : Int) < (i : Int) := by omega
        have hg2 : decide ((i : Int) > (j : Int)) = true := decide_eq_true hg1
        have hcall := swapRange_calls L enc g cb blk off cap (m - i) m j d0 dk w0 wr R (by omega) S1.out (by omega) (by omega) (by omega)
        rw [hds, c1] at hcall
        have X3 : Hid (∀ d2 : Array α, (∀ x, d2[x]! = swpN (m - i) m j (fun x => dk[x]!) x) → ∀ x, rotN (m - (i - j)) m (m + j) (fun x => d2[x]!) x = rotN a m b (fun x => d[x]!) x) := fun d2 h x => by rw [rotN_left i j m (fun x => dk[x]!) _ (by omega) hgt h]; exact HX.out x
        have P3 : Hid (∀ d2 : Array α, PermIn (m - i) (m + j) dk d2 → d2.size = d.size ∧ PermIn a b d d2) := fun d2 h => ⟨h.1.trans hds, permIn_trans _ _ _ _ _ HP.out (permIn_mono _ _ _ _ _ _ (by omega) (by omega) (by omega) h)⟩
        clear S1 HX HP
        go_wp2_with fail
        go_at_fn 95
        refine hcall.mono ?_
        rintro e w1 ⟨rfl, d2, S2, P2, X2⟩
        have S2 : Aside (SWK enc k w0 blk off d2 w1) := S2
        have P4 := P3.out _ P2
        have X4 : Hid _ := X3.out _ X2
        clear P2 X2
        go_wp2
        go_roundg (i - j + j)
        case measure => omega
        case rel => exact ⟨i - j, j, d2, by rw [show ((i - j : Nat) : Int) = (i : Int) - (j : Int) by omega], rfl, by omega, hj0, by omega, hjm, Nat.le_refl _, P4.1, S2, P4.2, X4⟩
      · have hg1 : ¬ (j : Int) < (i : Int) := by omega
        have hg2 : decide ((i : Int) > (j : Int)) = false := decide_eq_false hg1
        have hcall := swapRange_calls L enc g cb blk off cap (m - i) (m + j - i) i d0 dk w0 wr R (by omega) S1.out (by omega) (by omega) (by omega)
        rw [hds, c1, show ((m + j - i : Nat) : Int) = (m : Int) + (j : Int) - (i : Int) by omega] at hcall
        have X3 : Hid (∀ d2 : Array α, (∀ x, d2[x]! = swpN (m - i) (m + j - i) i (fun x => dk[x]!) x) → ∀ x, rotN (m - i) m (m + (j - i)) (fun x => d2[x]!) x = rotN a m b (fun x => d[x]!) x) := fun d2 h x => by rw [rotN_right i j m (fun x => dk[x]!) _ (by omega) (by omega) h]; exact HX.out x
        have P3 : Hid (∀ d2 : Array α, PermIn (m - i) (m + j - i + i) dk d2 → d2.size = d.size ∧ PermIn a b d d2) := fun d2 h => ⟨h.1.trans hds, permIn_trans _ _ _ _ _ HP.out (permIn_mono _ _ _ _ _ _ (by omega) (by omega) (by omega) h)⟩
        clear S1 HX HP
        go_wp2_with (go_at_fn 95; refine hcall.mono ?_; rintro e w1 ⟨rfl, d2, S2, P2, X2⟩; have S2 : Aside (SWK enc k w0 blk off d2 w1) := S2; have P4 := P3.out _ P2; have X4 : Hid _ := X3.out _ X2; clear P2 X2)
        go_roundg (i + (j - i))
        case measure => omega
        case rel => exact ⟨i, j - i, d2, rfl, by rw [show ((j - i : Nat) : Int) = (j : Int) - (i : Int) by omega], hi0, by omega, him, by omega, Nat.le_refl _, P4.1, S2, P4.2, X4⟩
end Go.Proofs.YtmnblgaefdahhaaGreatDoor

/- slices.SortStableFunc at values: two sorted rows merged, where one of them has one member alone. -/
set_option linter.unusedVariables false
set_option linter.unusedSimpArgs false
namespace Go.Proofs.YtmnblgaefdahhaaGreatDoor
open Go.Shelf Go.RowKit Go.Lib Go.Sort
variable {P : Program} {k : Nat} {α : Type} [Inhabited α]
def SymSaid (P : Program) (enc : α → List Value) (cf : α → α → Int) (k : Nat) (g : Nat) (cb : Array Value) (blk off cap : Nat) (w0 : World) (a m b : Nat) (d : Array α) (w : World) : Prop :=
  Calls P 68 #[.slice (some ⟨blk, off, none⟩) d.size cap, .int .i64 a, .int .i64 m, .int .i64 b, .func (.func g) #[] cb] w fun e w' =>
    e = .returned (.tuple #[]) ∧ ∃ d', SWK enc k w0 blk off d' w' ∧ PermIn a b d d' ∧ SortedIn (ltOf cf) a b d'
set_option maxHeartbeats 4000000 in
set_option maxRecDepth 1000000 in
theorem sym_one (L : StP P k) (enc : α → List Value) (cf : α → α → Int) (g : Nat) (cb : Array Value) (blk off cap a m b : Nat) (d0 d : Array α) (w0 w : World)
    (eg : ∀ args w, (callFunc g args).run P w = .ok (.enter g args) w) (hcmp : CmpLays P g cb enc k cf blk off d0.size w0) (SO : SWO (ltOf cf)) (R : RowK enc k w0 blk off d0) (hs : d0.size = d.size) (S : SWK enc k w0 blk off d w)
    (ham : a < m) (hmb : m < b) (hb : b ≤ d.size) (hsz : d.size < 4611686018427387904) (hl : SortedIn (ltOf cf) a m d) (hr : SortedIn (ltOf cf) m b d) (h1' : m = a + 1) :
    SymSaid P enc cf k g cb blk off cap w0 a m b d w := by
  have mixed := L.mixed; have t0 := L.t0; have a0 := L.a0; have z0 := L.z0; have v0 := L.v0; have t3 := L.t3; have a3 := L.a3; have z3 := L.z3; have v3 := L.v3; have t4 := L.t4; have a4 := L.a4; have z4 := L.z4; have v4 := L.v4
  have t80 := L.t80; have a80 := L.a80; have z80 := L.z80; have v80 := L.v80; have t87 := L.t87; have a87 := L.a87; have z87 := L.z87; have v87 := L.v87; have aE := L.aE; have zE := L.zE; have t114 := L.t114; have a114 := L.a114; have z114 := L.z114; have v114 := L.v114
  have S0 : Aside (SWK enc k w0 blk off d w) := S
  have FG := L.f_sym
  have HC : Aside _ := hcmp
  have HL : Hid _ := hl
  have HR : Hid _ := hr
  have hm1 : (m : Int) - (a : Int) = 1 := by omega
  have h1 : Hid _ := h1'
  have mo := fun (i : Nat) (d' : Array α) => merged_one' (lt := ltOf cf) (a := a) (i := i) (b := b) (d := d) (d' := d') SO
  have MO : Hid _ := mo
  clear S hcmp hl hr mo h1'
  unfold SymSaid
  go_enter FG, Tryz.ntmps68
  go_wp2
  go_loopg [10, 11] (b - m) (fun kx s10 s11 wr => ∃ (i j : Nat), s10 = .int .i64 i ∧ s11 = .int .i64 j ∧ m ≤ i ∧ i ≤ j ∧ j ≤ b ∧ j - i ≤ kx ∧ Aside (SWK enc k w0 blk off d wr) ∧ Hid (m < i → ltOf cf d[i - 1]! d[a]! = true) ∧ Hid (j < b → ltOf cf d[j]! d[a]! = false))
  case atStart => exact ⟨m, b, rfl, rfl, Nat.le_refl _, by omega, Nat.le_refl _, Nat.le_refl _, S0, fun h => absurd h (Nat.lt_irrefl _), fun h => absurd h (Nat.lt_irrefl _)⟩
  case round =>
    clear S0
    obtain ⟨i, j, rfl, rfl, hmi, hij, hjb, hkx, S1, I1, I2⟩ := hrel
    by_cases hlt : i < j
    · have hltz : (i : Int) < (j : Int) := by omega
      obtain ⟨h, hh⟩ : ∃ h : Nat, (i + j) / 2 = h := ⟨_, rfl⟩
      have ehz : ((i : Int) + (j : Int)) / 2 = (h : Int) := by omega
      have hih : i ≤ h := by omega
      have hhj : h < j := by omega
      clear hh
      go_wp2_with fail
      cases hL : ltOf cf d[h]! d[a]! with
      | true =>
        have ea1 : ((h : Int)).toNat = h := by omega
        have pa1 : (0 : Int) ≤ (h : Int) := by omega
        have ba1 : (h : Int) < (d.size : Int) := by omega
        have ra1 : IntKind.i64.wrap ((h : Int)) = (h : Int) := by rw [IntKind.wrap_i64]; omega
        have ec1 : ((a : Int)).toNat = a := by omega
        have pc1 : (0 : Int) ≤ (a : Int) := by omega
        have bc1 : (a : Int) < (d.size : Int) := by omega
        have rc1 : IntKind.i64.wrap ((a : Int)) = (a : Int) := by rw [IntKind.wrap_i64]; omega
        obtain ⟨x1, hx1⟩ : ∃ x, x = d[h]! := ⟨_, rfl⟩
        obtain ⟨y1, hy1⟩ : ∃ x, x = d[a]! := ⟨_, rfl⟩
        have l1a := S1.out.ld R (by omega) P (h) (by omega)
        have l1b := S1.out.ld R (by omega) P (a) (by omega)
        rw [← hx1] at l1a
        rw [← hy1] at l1b
        have hc1 := S1.out.cmp HC.out (by omega) x1 y1
        have hv1 : cf x1 y1 < 0 := by rw [hx1, hy1]; exact of_decide_eq_true hL
        have hd1 : decide (cf x1 y1 < 0) = true := decide_eq_true hv1
        clear hx1 hy1
        go_wp2_with fail
        go_quiet_grown (first | (go_at_fn g; refine Calls.grown_of (hc1 _ _)))
        have S2 : Aside (SWK enc k w0 blk off d (grow (wr.drewN nq) osq)) := S1.out.grown nq osq
        clear l1a l1b hc1 S1
        generalize grow (wr.drewN nq) osq = w2 at S2 ⊢
        clear nq osq
        go_wp2_with fail
        go_roundg (j - (h + 1))
        case measure => omega
        case rel => exact ⟨h + 1, j, by go_num, rfl, by omega, by omega, hjb, Nat.le_refl _, S2, fun _ => hL, I2⟩
      | false =>
        have ea2 : ((h : Int)).toNat = h := by omega
        have pa2 : (0 : Int) ≤ (h : Int) := by omega
        have ba2 : (h : Int) < (d.size : Int) := by omega
        have ra2 : IntKind.i64.wrap ((h : Int)) = (h : Int) := by rw [IntKind.wrap_i64]; omega
        have ec2 : ((a : Int)).toNat = a := by omega
        have pc2 : (0 : Int) ≤ (a : Int) := by omega
        have bc2 : (a : Int) < (d.size : Int) := by omega
        have rc2 : IntKind.i64.wrap ((a : Int)) = (a : Int) := by rw [IntKind.wrap_i64]; omega
        obtain ⟨x2, hx2⟩ : ∃ x, x = d[h]! := ⟨_, rfl⟩
        obtain ⟨y2, hy2⟩ : ∃ x, x = d[a]! := ⟨_, rfl⟩
        have l2a := S1.out.ld R (by omega) P (h) (by omega)
        have l2b := S1.out.ld R (by omega) P (a) (by omega)
        rw [← hx2] at l2a
        rw [← hy2] at l2b
        have hc2 := S1.out.cmp HC.out (by omega) x2 y2
        have hv2 : ¬ cf x2 y2 < 0 := by rw [hx2, hy2]; exact of_decide_eq_false hL
        have hd2 : decide (cf x2 y2 < 0) = false := decide_eq_false hv2
        clear hx2 hy2
        go_wp2_with fail
        go_quiet_grown (first | (go_at_fn g; refine Calls.grown_of (hc2 _ _)))
        have S2 : Aside (SWK enc k w0 blk off d (grow (wr.drewN nq) osq)) := S1.out.grown nq osq
        clear l2a l2b hc2 S1
        generalize grow (wr.drewN nq) osq = w2 at S2 ⊢
        clear nq osq
        go_wp2_with fail
        go_roundg (h - i)
        case measure => omega
        case rel => exact ⟨i, h, rfl, rfl, hmi, hih, by omega, Nat.le_refl _, S2, I1, fun _ => hL⟩
    · obtain rfl : j = i := by omega
      clear hlt
      have D : Hid (∀ d' : Array α, (∀ x, d'[x]! = rotN a (a + 1) j (fun x => d[x]!) x) → SortedIn (ltOf cf) a b d') := fun d' hd => MO.out j d' (by have := h1.out; omega) hjb (h1.out ▸ HR.out) (fun h => I1.out (by have := h1.out; omega)) (fun h => I2.out h) hd
      clear MO HL HR I1 I2
      go_wp2
      go_loopg [13] (j - 1 - a) (fun kx s13 wr2 => ∃ (i : Nat) (dk : Array α), s13 = .int .i64 i ∧ a ≤ i ∧ i ≤ j - 1 ∧ j - 1 - i ≤ kx ∧ dk.size = d.size ∧ Aside (SWK enc k w0 blk off dk wr2) ∧ Hid (PermIn a b d dk) ∧ Hid (∀ x, dk[x]! = rotN a (a + 1) (i + 1) (fun x => d[x]!) x))
      case atStart => exact ⟨a, d, rfl, Nat.le_refl _, by omega, Nat.le_refl _, rfl, S1, permIn_refl _ _ _, fun x => (rotN_end _ _ _ _).symm⟩
      case round =>
        clear S1
        obtain ⟨i, dk, rfl, hai, hij2, hkx2, hds, S1, HP, HX⟩ := hrel
        by_cases hlt : i < j - 1
        · have hltz : (i : Int) < (j : Int) - 1 := by omega
          have hltd : decide ((i : Int) < (j : Int) - 1) = true := decide_eq_true hltz
          go_wp2_with fail
          have ea3 : ((i : Int)).toNat = i := by omega
          have pa3 : (0 : Int) ≤ (i : Int) := by omega
          have ba3 : (i : Int) < (d.size : Int) := by omega
          have ra3 : IntKind.i64.wrap ((i : Int)) = (i : Int) := by rw [IntKind.wrap_i64]; omega
          have ec3 : ((i : Int) + 1).toNat = i + 1 := by omega
          have pc3 : (0 : Int) ≤ (i : Int) + 1 := by omega
          have bc3 : (i : Int) + 1 < (d.size : Int) := by omega
          have rc3 : IntKind.i64.wrap ((i : Int) + 1) = (i : Int) + 1 := by rw [IntKind.wrap_i64]; omega
          have S2 : Aside (SWK enc k w0 blk off (swp dk (i) (i + 1)) ((wr.drew.setCells blk (off + (i) * k) (enc dk[i + 1]!)).setCells blk (off + (i + 1) * k) (enc dk[i]!))) := S1.out.swapped R (i) (i + 1) (by omega) (by omega)
          have l3a := S1.out.ld1 R (by omega) P (i) (by omega)
          have l3b := S1.out.ld1 R (by omega) P (i + 1) (by omega)
          have s3a := S1.out.st1 R (by omega) P (i) (by omega) dk[i + 1]!
          have s3b := S1.out.st2 R (by omega) P (i) (i + 1) (by omega) (by omega) dk[i + 1]! dk[i]!
          have n3a : (enc dk[i]!).length = k := R.hk _
          have n3b : (enc dk[i + 1]!).length = k := R.hk _
          generalize enc dk[i]! = cI3 at S2 l3a s3b n3a
          generalize enc dk[i + 1]! = cJ3 at S2 l3b s3a s3b n3b
          clear S1
          go_wp2_with fail
          go_big_region_o
          clear l3a l3b s3a s3b
          generalize (wr.drew.setCells blk (off + (i) * k) cJ3).setCells blk (off + (i + 1) * k) cI3 = w2 at S2 ⊢
          go_wp2
          go_roundg (j - 1 - (i + 1))
          case measure => omega
          case rel =>
            exact ⟨i + 1, swp dk i (i + 1), by go_num, by omega, by omega, Nat.le_refl _, by rw [size_swp]; exact hds, S2, permIn_trans _ _ _ _ _ HP.out (swp_permIn _ _ _ _ _ (by omega) (by omega) (by omega) (by omega) (by omega)), fun x => rotN_up hai (by omega) hds HX.out x⟩
        · have hltz : ¬ (i : Int) < (j : Int) - 1 := by omega
          have hltd : decide ((i : Int) < (j : Int) - 1) = false := decide_eq_false hltz
          have e1 : i + 1 = j := by omega
          go_wp2
          (try simp only [Exit.inBlock, Exit.then]); refine bodyPost_ret (results_none rfl _ _ _) rfl ?_
          exact ⟨rfl, dk, S1.out, HP.out, D.out dk (by rw [← e1]; exact HX.out)⟩
set_option maxHeartbeats 4000000 in
set_option maxRecDepth 1000000 in
theorem sym_last (L : StP P k) (enc : α → List Value) (cf : α → α → Int) (g : Nat) (cb : Array Value) (blk off cap a m b : Nat) (d0 d : Array α) (w0 w : World)
    (eg : ∀ args w, (callFunc g args).run P w = .ok (.enter g args) w) (hcmp : CmpLays P g cb enc k cf blk off d0.size w0) (SO : SWO (ltOf cf)) (R : RowK enc k w0 blk off d0) (hs : d0.size = d.size) (S : SWK enc k w0 blk off d w)
    (ham : a < m) (hmb : m < b) (hb : b ≤ d.size) (hsz : d.size < 4611686018427387904) (hl : SortedIn (ltOf cf) a m d) (hr : SortedIn (ltOf cf) m b d) (h1' : ¬ m = a + 1) (h2' : b = m + 1) :
    SymSaid P enc cf k g cb blk off cap w0 a m b d w := by
  have mixed := L.mixed; have t0 := L.t0; have a0 := L.a0; have z0 := L.z0; have v0 := L.v0; have t3 := L.t3; have a3 := L.a3; have z3 := L.z3; have v3 := L.v3; have t4 := L.t4; have a4 := L.a4; have z4 := L.z4; have v4 := L.v4
  have t80 := L.t80; have a80 := L.a80; have z80 := L.z80; have v80 := L.v80; have t87 := L.t87; have a87 := L.a87; have z87 := L.z87; have v87 := L.v87; have aE := L.aE; have zE := L.zE; have t114 := L.t114; have a114 := L.a114; have z114 := L.z114; have v114 := L.v114
  have S0 : Aside (SWK enc k w0 blk off d w) := S
  have FG := L.f_sym
  have HC : Aside _ := hcmp
  have HL : Hid _ := hl
  have HR : Hid _ := hr
  have hm1 : ¬ (m : Int) - (a : Int) = 1 := by omega
  have hm2 : ((m : Int) - (a : Int) == 1) = false := beq_eq_false_iff_ne.2 hm1
  have hb1 : (b : Int) - (m : Int) = 1 := by omega
  have h2 : Hid _ := h2'
  have mo := fun (i : Nat) (d' : Array α) => merged_last' (lt := ltOf cf) (a := a) (i := i) (m := m) (d := d) (d' := d') SO
  have MO : Hid _ := mo
  clear S hcmp hl hr mo h1' h2'
  unfold SymSaid
  go_enter FG, Tryz.ntmps68
  go_wp2
  go_loopg [14, 15] (m - a) (fun kx s10 s11 wr => ∃ (i j : Nat), s10 = .int .i64 i ∧ s11 = .int .i64 j ∧ a ≤ i ∧ i ≤ j ∧ j ≤ m ∧ j - i ≤ kx ∧ Aside (SWK enc k w0 blk off d wr) ∧ Hid (a < i → ltOf cf d[m]! d[i - 1]! = false) ∧ Hid (j < m → ltOf cf d[m]! d[j]! = true))
  case atStart => exact ⟨a, m, rfl, rfl, Nat.le_refl _, by omega, Nat.le_refl _, Nat.le_refl _, S0, fun h => absurd h (Nat.lt_irrefl _), fun h => absurd h (Nat.lt_irrefl _)⟩
  case round =>
    clear S0
    obtain ⟨i, j, rfl, rfl, hmi, hij, hjb, hkx, S1, I1, I2⟩ := hrel
    by_cases hlt : i < j
    · have hltz : (i : Int) < (j : Int) := by omega
      obtain ⟨h, hh⟩ : ∃ h : Nat, (i + j) / 2 = h := ⟨_, rfl⟩
      have ehz : ((i : Int) + (j : Int)) / 2 = (h : Int) := by omega
      have hih : i ≤ h := by omega
      have hhj : h < j := by omega
      clear hh
      go_wp2_with fail
      cases hL : ltOf cf d[m]! d[h]! with
      | false =>
        have ea1 : ((m : Int)).toNat = m := by omega
        have pa1 : (0 : Int) ≤ (m : Int) := by omega
        have ba1 : (m : Int) < (d.size : Int) := by omega
        have ra1 : IntKind.i64.wrap ((m : Int)) = (m : Int) := by rw [IntKind.wrap_i64]; omega
        have ec1 : ((h : Int)).toNat = h := by omega
        have pc1 : (0 : Int) ≤ (h : Int) := by omega
        have bc1 : (h : Int) < (d.size : Int) := by omega
        have rc1 : IntKind.i64.wrap ((h : Int)) = (h : Int) := by rw [IntKind.wrap_i64]; omega
        obtain ⟨x1, hx1⟩ : ∃ x, x = d[m]! := ⟨_, rfl⟩
        obtain ⟨y1, hy1⟩ : ∃ x, x = d[h]! := ⟨_, rfl⟩
        have l1a := S1.out.ld R (by omega) P (m) (by omega)
        have l1b := S1.out.ld R (by omega) P (h) (by omega)
        rw [← hx1] at l1a
        rw [← hy1] at l1b
        have hc1 := S1.out.cmp HC.out (by omega) x1 y1
        have hv1 : ¬ cf x1 y1 < 0 := by rw [hx1, hy1]; exact of_decide_eq_false hL
        have hd1 : decide (cf x1 y1 < 0) = false := decide_eq_false hv1
        clear hx1 hy1
        go_wp2_with fail
        go_quiet_grown (first | (go_at_fn g; refine Calls.grown_of (hc1 _ _)))
        have S2 : Aside (SWK enc k w0 blk off d (grow (wr.drewN nq) osq)) := S1.out.grown nq osq
        clear l1a l1b hc1 S1
        generalize grow (wr.drewN nq) osq = w2 at S2 ⊢
        clear nq osq
        go_wp2_with fail
        go_roundg (j - (h + 1))
        case measure => omega
        case rel => exact ⟨h + 1, j, by go_num, rfl, by omega, by omega, hjb, Nat.le_refl _, S2, fun _ => hL, I2⟩
      | true =>
        have ea2 : ((m : Int)).toNat = m := by omega
        have pa2 : (0 : Int) ≤ (m : Int) := by omega
        have ba2 : (m : Int) < (d.size : Int) := by omega
        have ra2 : IntKind.i64.wrap ((m : Int)) = (m : Int) := by rw [IntKind.wrap_i64]; omega
        have ec2 : ((h : Int)).toNat = h := by omega
        have pc2 : (0 : Int) ≤ (h : Int) := by omega
        have bc2 : (h : Int) < (d.size : Int) := by omega
        have rc2 : IntKind.i64.wrap ((h : Int)) = (h : Int) := by rw [IntKind.wrap_i64]; omega
        obtain ⟨x2, hx2⟩ : ∃ x, x = d[m]! := ⟨_, rfl⟩
        obtain ⟨y2, hy2⟩ : ∃ x, x = d[h]! := ⟨_, rfl⟩
        have l2a := S1.out.ld R (by omega) P (m) (by omega)
        have l2b := S1.out.ld R (by omega) P (h) (by omega)
        rw [← hx2] at l2a
        rw [← hy2] at l2b
        have hc2 := S1.out.cmp HC.out (by omega) x2 y2
        have hv2 : cf x2 y2 < 0 := by rw [hx2, hy2]; exact of_decide_eq_true hL
        have hd2 : decide (cf x2 y2 < 0) = true := decide_eq_true hv2
        clear hx2 hy2
        go_wp2_with fail
        go_quiet_grown (first | (go_at_fn g; refine Calls.grown_of (hc2 _ _)))
        have S2 : Aside (SWK enc k w0 blk off d (grow (wr.drewN nq) osq)) := S1.out.grown nq osq
        clear l2a l2b hc2 S1
        generalize grow (wr.drewN nq) osq = w2 at S2 ⊢
        clear nq osq
        go_wp2_with fail
        go_roundg (h - i)
        case measure => omega
        case rel => exact ⟨i, h, rfl, rfl, hmi, hih, by omega, Nat.le_refl _, S2, I1, fun _ => hL⟩
    · obtain rfl : j = i := by omega
      clear hlt
      have D : Hid (∀ d' : Array α, (∀ x, d'[x]! = rotN j m (m + 1) (fun x => d[x]!) x) → SortedIn (ltOf cf) a b d') := fun d' hd => h2.out ▸ MO.out j d' (by omega) hjb HL.out (fun h => I1.out (by omega)) (fun h => I2.out h) hd
      clear MO HL HR I1 I2
      go_wp2
      go_loopg [17] (m - j) (fun kx s13 wr2 => ∃ (i : Nat) (dk : Array α), s13 = .int .i64 i ∧ j ≤ i ∧ i ≤ m ∧ i - j ≤ kx ∧ dk.size = d.size ∧ Aside (SWK enc k w0 blk off dk wr2) ∧ Hid (PermIn a b d dk) ∧ Hid (∀ x, dk[x]! = rotN i m (m + 1) (fun x => d[x]!) x))
      case atStart => exact ⟨m, d, rfl, by omega, Nat.le_refl _, Nat.le_refl _, rfl, S1, permIn_refl _ _ _, fun x => (rotN_none _ _ _ _).symm⟩
      case round =>
        clear S1
        obtain ⟨i, dk, rfl, hai, hij2, hkx2, hds, S1, HP, HX⟩ := hrel
        by_cases hlt : j < i
        · have hltz : (j : Int) < (i : Int) := by omega
          have hltd : decide ((i : Int) > (j : Int)) = true := decide_eq_true hltz
          go_wp2_with fail
          have ea3 : ((i : Int)).toNat = i := by omega
          have pa3 : (0 : Int) ≤ (i : Int) := by omega
          have ba3 : (i : Int) < (d.size : Int) := by omega
          have ra3 : IntKind.i64.wrap ((i : Int)) = (i : Int) := by rw [IntKind.wrap_i64]; omega
          have ec3 : ((i : Int) - 1).toNat = i - 1 := by omega
          have pc3 : (0 : Int) ≤ (i : Int) - 1 := by omega
          have bc3 : (i : Int) - 1 < (d.size : Int) := by omega
          have rc3 : IntKind.i64.wrap ((i : Int) - 1) = (i : Int) - 1 := by rw [IntKind.wrap_i64]; omega
          have S2 : Aside (SWK enc k w0 blk off (swp dk (i) (i - 1)) ((wr.drew.setCells blk (off + (i) * k) (enc dk[i - 1]!)).setCells blk (off + (i - 1) * k) (enc dk[i]!))) := S1.out.swapped R (i) (i - 1) (by omega) (by omega)
          have l3a := S1.out.ld1 R (by omega) P (i) (by omega)
          have l3b := S1.out.ld1 R (by omega) P (i - 1) (by omega)
          have s3a := S1.out.st1 R (by omega) P (i) (by omega) dk[i - 1]!
          have s3b := S1.out.st2 R (by omega) P (i) (i - 1) (by omega) (by omega) dk[i - 1]! dk[i]!
          have n3a : (enc dk[i]!).length = k := R.hk _
          have n3b : (enc dk[i - 1]!).length = k := R.hk _
          generalize enc dk[i]! = cI3 at S2 l3a s3b n3a
          generalize enc dk[i - 1]! = cJ3 at S2 l3b s3a s3b n3b
          clear S1
          go_wp2_with fail
          go_big_region_o
          clear l3a l3b s3a s3b
          generalize (wr.drew.setCells blk (off + (i) * k) cJ3).setCells blk (off + (i - 1) * k) cI3 = w2 at S2 ⊢
          go_wp2
          go_roundg (i - 1 - j)
          case measure => omega
          case rel =>
            exact ⟨i - 1, swp dk i (i - 1), by rw [show ((i - 1 : Nat) : Int) = (i : Int) - 1 by omega], by omega, by omega, Nat.le_refl _, by rw [size_swp]; exact hds, S2, permIn_trans _ _ _ _ _ HP.out (swp_permIn _ _ _ _ _ (by omega) (by omega) (by omega) (by omega) (by omega)), fun x => rotN_down (by omega) hij2 (by omega) hds HX.out x⟩
        · have hltz : ¬ (j : Int) < (i : Int) := by omega
          have hltd : decide ((i : Int) > (j : Int)) = false := decide_eq_false hltz
          obtain rfl : i = j := by omega
          go_wp2
          (try simp only [Exit.inBlock, Exit.then]); refine bodyPost_ret (results_none rfl _ _ _) rfl ?_
          exact ⟨rfl, dk, S1.out, HP.out, D.out dk HX.out⟩
end Go.Proofs.YtmnblgaefdahhaaGreatDoor
