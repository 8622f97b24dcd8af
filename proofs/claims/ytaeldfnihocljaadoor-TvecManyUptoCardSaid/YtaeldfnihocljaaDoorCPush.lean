/- A tree with one item. A tree with an item behind the others. A tree with an item behind the others: branches. -/
import Derived.Deep.RegionHeld3
import Derived.Test.YtaeldfnihocljaaDoorCRrbA
import Derived.Test.YtaeldfnihocljaaDoorCBase
/- A tree with one item. -/
set_option linter.unusedVariables false
set_option linter.unusedSimpArgs false
namespace Go.Proofs.YtaeldfnihocljaaDoor
open Go.RowKit
attribute [local go_sem] lt_succ_of methLeaf methBranch asNone asSome asLeaf asBranch

/-- A tree of a height with one item. -/
def sing (x : V) : Nat → N
  | 0 => .leaf [x]
  | 1 => .leaf [x]
  | h + 2 => .branch [sing x (h + 1)]
theorem sing_dn (x : V) : ∀ h, Dn (h + 1) (sing x (h + 1))
  | 0 => ⟨[x], rfl, by simp, by simp⟩
  | h + 1 => ⟨[], sing x (h + 1), rfl, by simp, by simp, sing_dn x h⟩
theorem sing_items (x : V) : ∀ h, N.items (sing x h) = [x]
  | 0 => rfl
  | 1 => rfl
  | h + 2 => by rw [sing, N.items, flat_one, sing_items x (h + 1)]
theorem sing_ok (x : V) (h : Nat) : N.Ok (sing x (h + 1)) := (sing_dn x h).ok

/-- over of nodes in a new array. -/
theorem over_new (ks : List N) (us : List Value) (w : World) (T : Nat → Prop) (hu : CsN w T ks us) (h0 : 0 < ks.length) (h1 : ks.length ≤ 65536) (hok : ∀ k, k ∈ ks → N.Ok k) (hm : (N.flat ks).length ≤ 4294967296) :
    Calls Tryd.prog 53 #[.slice (some ⟨w.heap.size, 0, none⟩) ks.length ks.length] (w.alloc (.cells us.toArray 81)) fun e w' => ∃ b, e = .returned (.pointer (some ⟨b, 0, none⟩)) ∧ IsB w' (fun b => (T b ∧ b < w.heap.size) ∨ w.heap.size ≤ b) ks b ∧ Below w.heap.size w w' := by
  have hB := (Below.refl w.heap.size w).alloc (Nat.le_refl _) (.cells us.toArray 81)
  have hk : KC (w.alloc (.cells us.toArray 81)) (fun b => (T b ∧ b < w.heap.size) ∨ w.heap.size ≤ b) ks ⟨w.heap.size, 0, none⟩ 0 := by
    refine CsN.kc (.inr (Nat.le_refl _)) (hu.keep (Keeps.below_to hB fun b h1 h2 => .inl ⟨h2, h1⟩)) fun j u hj => ?_
    rw [plus0, Nat.zero_add]
    have := heap_alloc_new w (.cells us.toArray 81)
    simp only [World.cell?, this]
    simpa using hj
  refine (over_calls ks ⟨w.heap.size, 0, none⟩ ks.length _ _ (Nat.le_refl _) hk h0 h1 hok hm).mono ?_
  rintro e w' ⟨b, rfl, hb, hbe⟩
  refine ⟨b, rfl, hb.keep (Keeps.weak fun b hb => ?_), below_then hB (by simp) hbe⟩
  rcases hb with hb | hb
  · exact hb.1
  · exact .inr (by simp at hb; omega)

set_option maxRecDepth 100000 in
set_option maxHeartbeats 4000000 in
theorem single_calls (x : V) (vx : Value) (h : Nat) (w : World) (S : Nat → Prop) (hx : IsV w S x vx) (hh : h ≤ 65536) :
    Calls Tryd.prog 54 #[vx, .int .i64 ((h + 1 : Nat) : Int)] w fun e w' => ∃ u, e = .returned u ∧ IsN w' (Old w S) (sing x (h + 1)) u ∧ Below w.heap.size w w' := by
  obtain ⟨hbx, Ax, cx, rfl, hcx, hAx⟩ := hx.eq
  have hx0 := And.intro hbx hAx
  clear hx hAx
  obtain ⟨w1, hw1, hB1, hsz, hb0, hb1⟩ := boxes2 w (.int .i64 x.kind) (.int .i64 x.num) (.string x.text) (.slice Ax x.items.length cx) (.int .i64 x.kind) (.int .i64 x.num) (.string x.text) (.slice Ax x.items.length cx) 31
  have HU : Hid (IsN w1 (Old w S) (sing x 1) (.iface 87 (.slice (some ⟨w.heap.size + 1, 0, none⟩) 1 1))) := by
    refine Lib.hid ?_
    have hvc := (VC.mk hx0.1 hcx hx0.2).keep (S' := Old w S) (Keeps.below_to hB1 fun b h1 h2 => .inl ⟨h2, h1⟩)
    have := IsN.leaf_mk (w := w1) (S := Old w S) (l := [x]) (A := some ⟨w.heap.size + 1, 0, none⟩) (cap := 1) (by simp) (.inr ⟨_, rfl, by
      simp only [LC]
      refine ⟨.inr (by simp), ⟨_, hvc, fun j u hu => ?_⟩, trivial⟩
      rw [plus0, Nat.zero_add]
      simp only [World.cell?, hb1]
      simpa using hu⟩)
    exact this
  clear hb0 hb1 hx0
  go_enter Tryd.func54, Tryd.ntmps54
  go_wp2_with fail
  have hw1 := Lib.hid hw1
  go_loopw [1, 5] (fun vh vn wr => ∃ j : Nat, vh = .int .i64 ((h - j : Nat) + 1 : Int) ∧ j ≤ h ∧ Hid (IsN wr (Old w S) (sing x (j + 1)) vn) ∧ Below w.heap.size w wr) (fun v _ _ => (intOf v).toNat)
  case atStart => exact ⟨0, by simp, by omega, HU, hB1⟩
  case round =>
    obtain ⟨j, rfl, hj, HN, hf⟩ := hrel
    by_cases hlt : j < h
    · have e1 : (1 : Int) < ((h - j : Nat) : Int) + 1 := by omega
      obtain ⟨t, y, rfl⟩ := HN.out.form
      have HC := Lib.hid (over_new [sing x (j + 1)] [.iface t y] wr _ ⟨_, [], rfl, HN.out, rfl⟩ (by simp) (by simp) (by simpa using sing_ok x j) (by rw [flat_one, sing_items]; simp))
      have hwr := hf.size
      have e2 : IntKind.i64.wrap (((h - j : Nat) : Int) + 1 - 1) = ((h - (j + 1) : Nat) : Int) + 1 := by rw [IntWalk.i64_in _ (by omega)]; omega
      go_wp2_with (first | (go_at_call 53; refine HC.out.mono ?_; rintro e w2 ⟨b, rfl, hb, hb2⟩; have HU2 := Lib.hid (IsN.branch_mk (hb.keep (Keeps.weak (S' := Old w S) fun b hb => by
          rcases hb with hb | hb
          · exact hb.1
          · exact .inr (by omega)))); clear hb))
      go_roundw
      case rel => exact ⟨j + 1, by congr 1; omega, by omega, HU2, below_then hf hf.size hb2⟩
      case measure => simp [intOf]
    · have e1 : ¬ (1 : Int) < ((h - j : Nat) : Int) + 1 := by omega
      obtain rfl : j = h := by omega
      go_wp2_with fail
      go_ret
      exact ⟨_, rfl, HN.out, hf⟩
end Go.Proofs.YtaeldfnihocljaaDoor

/- A tree with an item behind the others. -/
set_option linter.unusedVariables false
set_option linter.unusedSimpArgs false
namespace Go.Proofs.YtaeldfnihocljaaDoor
open Go.RowKit
attribute [local go_sem] lt_succ_of methLeaf methBranch asNone asSome asLeaf asBranch

/-- What push says of a tree. -/
def PushAt (h : Nat) : Prop := ∀ (k : N) (u : Value) (x : V) (vx : Value) (w : World) (S : Nat → Prop), Dn h k → IsN w S k u → (N.items k).length ≤ 65536 → h ≤ 65536 → IsV w S x vx →
  Calls Tryd.prog 52 #[u, .int .i64 (h : Int), vx] w fun e w' => Below w.heap.size w w' ∧ ((Pf h k ∧ e = .returned .nilIface) ∨ (∃ k' u', e = .returned u' ∧ IsN w' (Old w S) k' u' ∧ Dn h k' ∧ N.items k' = N.items k ++ [x] ∧ (∀ ks, k = .branch ks → ∃ ks', k' = .branch ks' ∧ ks.length ≤ ks'.length)))
set_option maxRecDepth 100000 in
set_option maxHeartbeats 4000000 in
theorem push_one : PushAt 1 := by
  intro k u x vx w S hd hu hm hh hx
  obtain ⟨m, rfl, hne, h32⟩ := hd
  obtain ⟨A, cap, rfl, hcap, hA⟩ := hu.leaf_eq
  obtain ⟨hbx, Ax, cx, rfl, hcx, hAx⟩ := hx.eq
  obtain ⟨w1, hw1, hB1, hsz, hb0⟩ := box0 w 31 (.int .i64 x.kind) (.int .i64 x.num) (.string x.text) (.slice Ax x.items.length cx)
  have hK1 : Keeps w S w1 (fun b => S b ∧ b < w.heap.size) := Keeps.below_to hB1 fun b h1 h2 => ⟨h2, h1⟩
  obtain ⟨ad, rfl, hLC⟩ : ∃ ad, A = some ad ∧ LC w1 (fun b => S b ∧ b < w.heap.size) m ad 0 := by
    rcases hA.keep hK1 with h | h
    · exact absurd h hne
    · exact h
  have HLC := Lib.hid hLC
  have HVC := Lib.hid ((VC.mk hbx hcx hAx).keep hK1)
  have hl0 := List.length_pos_iff.2 hne
  obtain ⟨e0, e1, e2, e3⟩ := block4 hb0
  clear hLC hA hAx hx hb0 hu hne
  by_cases hf : m.length = 32
  · have hf2 : (m.length : Int) = 32 := by omega
    go_enter Tryd.func52, Tryd.ntmps52
    go_wp2_with fail
    go_ret
    exact ⟨hB1, .inl ⟨⟨m, rfl, hf⟩, rfl⟩⟩
  · have hf2 : ¬ (m.length : Int) = 32 := by omega
    go_enter Tryd.func52, Tryd.ntmps52
    go_wp2_with fail
    have HL2 := Lib.hid (HLC.out.keep (w' := w1.drew) Keeps.drew)
    have HV2 := Lib.hid (HVC.out.keep (w' := w1.drew) Keeps.drew)
    go_region_law (refine appendF_grow_step (W := w1.drew) (fun b => S b ∧ b < w.heap.size) rfl (.tmp 24) (.tmp 26) rfl m ad x _ _ _ _ (by simp [Act.eval, Act.put]) (by simp [Act.eval, Act.put]) HL2.out HV2.out (by omega) ?_; intro v1 w3 hO hg; obtain ⟨A4, c4, rfl, hc4⟩ := hO.form; have hb3 := Below.grown (Below.refl w1.drew.heap.size w1.drew) hg (Nat.le_refl _) (fun k e => by cases e); have HO4 := Lib.hid hO; clear hO hg)
    all_goals go_wp2_with fail
    all_goals
      go_ret
      refine ⟨(below_then hB1 hB1.size ((Below.refl _ _).drew.trans hb3)), .inr ⟨.leaf (m ++ [x]), _, rfl, ?_, ⟨_, rfl, by simp, by simp; omega⟩, rfl, fun ks e => by cases e⟩⟩
      have hI := HO4.out.is (S' := Old w S) (fun b h => .inl h) (fun b (h : w1.heap.size ≤ b) => .inr (by omega)) (by simp; omega)
      obtain ⟨A5, c5, he, h1, _, h3⟩ := hI
      rw [List.length_append, List.length_singleton] at he
      rw [he]
      have := IsN.leaf_mk h1 h3
      rwa [List.length_append, List.length_singleton] at this
end Go.Proofs.YtaeldfnihocljaaDoor

/- A tree with an item behind the others: branches. -/
set_option linter.unusedVariables false
set_option linter.unusedSimpArgs false
namespace Go.Proofs.YtaeldfnihocljaaDoor
open Go.RowKit
attribute [local go_sem] lt_succ_of methLeaf methBranch asNone asSome asLeaf asBranch

theorem Dn.all_pf {h : Nat} {ks : List N} (hd : Dn (h + 2) (.branch ks)) (hp : Pf (h + 1) (kidAt ks (ks.length - 1))) : ∀ k, k ∈ ks → Pf (h + 1) k := by
  obtain ⟨js, k, e, h1, h2, h3⟩ := hd
  injection e with e
  subst e
  intro y hy
  rcases List.mem_append.1 hy with hy | hy
  · exact h2 y hy
  · rw [List.mem_singleton] at hy
    subst hy
    have : kidAt (js ++ [y]) ((js ++ [y]).length - 1) = y := by
      unfold kidAt
      simp [List.getD_eq_getElem?_getD]
    rwa [this] at hp
theorem push_new {h : Nat} {ks : List N} {x : V} (hp : ∀ k, k ∈ ks → Pf (h + 1) k) (hl : ks.length < 32) : Dn (h + 2) (.branch (ks ++ [sing x (h + 1)])) :=
  ⟨ks, _, rfl, hl, hp, sing_dn x h⟩
theorem flat_set_last {ks : List N} {k' : N} {l : List V} (h0 : 0 < ks.length) (hi : N.items k' = N.items (kidAt ks (ks.length - 1)) ++ l) : N.flat (ks.set (ks.length - 1) k') = N.flat ks ++ l := by
  have i7 : ks.length - 1 < ks.length := by omega
  conv => rhs; rw [flat_split i7]
  rw [List.set_eq_take_append_cons_drop, if_pos i7, flat_append, N.flat, hi, List.drop_eq_nil_of_le (by omega)]
  simp [N.flat]
theorem Dn.set_last {h : Nat} {ks : List N} {k' : N} (hd : Dn (h + 2) (.branch ks)) (h1 : Dn (h + 1) k') : Dn (h + 2) (.branch (ks.set (ks.length - 1) k')) := by
  obtain ⟨js, k, e, h3, h4, h5⟩ := hd
  injection e with e
  subst e
  refine ⟨js, k', ?_, h3, h4, h1⟩
  rw [List.set_append_right _ _ (by simp)]
  simp
/-- A slice of nodes of the call's own, not empty: where it lies. -/
theorem OwnN.kc {w : World} {base : Nat} {S : Nat → Prop} {l : List N} {v : Value} (h : OwnN w base S l v) (hl : l ≠ []) : ∃ A cap, v = .slice (some A) l.length cap ∧ l.length ≤ cap ∧ KC w (fun b => S b ∨ base ≤ b) l A 0 := by
  obtain ⟨A, cap, e, hc, h1⟩ := h.is (S' := fun b => S b ∨ base ≤ b) (fun b h => .inl h) (fun b h => .inr h)
  rcases h1 with h1 | ⟨ad, h2, h3⟩
  · exact absurd h1 hl
  · exact ⟨ad, cap, by rw [e, h2], hc, h3⟩
set_option maxRecDepth 100000 in
set_option maxHeartbeats 8000000 in
theorem push_branch (h : Nat) (ih : PushAt (h + 1)) : PushAt (h + 2) := by
  intro k u x vx w S hd hu hm hh hx
  obtain ⟨ks, rfl⟩ : ∃ ks, k = .branch ks := by obtain ⟨ks, k', e, _⟩ := hd; exact ⟨_, e⟩
  obtain ⟨b, rfl, hB⟩ := hu.branch_eq
  obtain ⟨hbx, Ax, cx, rfl, hcx, hAx⟩ := hx.eq
  obtain ⟨w1, hw1, hB1, hsz, hb0⟩ := box0 w 31 (.int .i64 x.kind) (.int .i64 x.num) (.string x.text) (.slice Ax x.items.length cx)
  have hK1 : Keeps w S w1 (fun b => S b ∧ b < w.heap.size) := Keeps.below_to hB1 fun b h1 h2 => ⟨h2, h1⟩
  have hBw := hB.keep hK1
  obtain ⟨e0, e1, e2, e3⟩ := block4 hb0
  have hk32 := hd.ok.branch.2.1
  have hk0 := List.length_pos_iff.2 hd.ok.branch.1
  simp only [N.items] at hm ⊢
  have HX := Lib.hid ((IsV.mk hbx hcx hAx).keep hK1)
  have HBW := Lib.hid hBw
  have HD := Lib.hid hd
  have IH := Lib.hid ih
  obtain ⟨A, cA, B0, cB, hs, c0, hA, c1, hBc, hk, hu'⟩ := hBw
  have hbl := World.block_lt_of_cell? w1 _ c0
  obtain ⟨hsA, ul, hul, hcl⟩ := hk.at (ks.length - 1) (by omega)
  rw [Nat.zero_add] at hcl
  have hAl := World.block_lt_of_cell? w1 _ hcl
  have HUL := Lib.hid hul
  have HKC := Lib.hid hk
  have HUP := Lib.hid hu'
  have HM := Lib.hid hm
  have i1 : IntKind.i64.wrap ((ks.length : Int) - 1) = (ks.length : Int) - 1 := IntWalk.i64_in _ (by omega)
  have i2 : IntKind.i64.wrap ((h : Int) + 2 - 1) = ((h + 1 : Nat) : Int) := by rw [IntWalk.i64_in _ (by omega)]; omega
  have i3 : (0 : Int) ≤ (ks.length : Int) - 1 := by omega
  have i8 : (1 : Int) ≤ (ks.length : Int) := by omega
  have i4 : ((ks.length : Int) - 1).toNat = ks.length - 1 := by omega
  have i5 : (ks.length : Int) - 1 < (ks.length : Int) := by omega
  have i6 : ¬ ((h + 2 : Nat) : Int) = 1 := by omega
  have i7 : ks.length - 1 < ks.length := by omega
  clear hd ih hB hu hx hAx hk hu' hm hb0 hul
  go_enter Tryd.func52, Tryd.ntmps52
  go_wp2_with fail
  have hbd : Below w1.heap.size w1 w1.drew := (Below.refl _ _).drew
  have HC := Lib.hid (IH.out (kidAt ks (ks.length - 1)) ul x _ w1.drew _ (HD.out.kid _ i7) (HUL.out.keep Keeps.drew) (by have := HM.out; rw [flat_split i7, List.length_append, List.length_append] at this; omega) (by omega) (HX.out.keep Keeps.drew))
  have hB2 := HBW.out.keep (w' := w1.drew) Keeps.drew
  go_still_tail 10, (by kernel_rfl)
  go_wp2_with (go_at_call 52; refine HC.out.mono ?_)
  rintro e w2 ⟨hb2, ⟨hpf, rfl⟩ | ⟨k', u', rfl, hu2, hd2, hi2, hr2⟩⟩
  · have hb3 := below_undrew hb2
    have d0 := cellB hb3 c0
    have hbl2 := World.block_lt_of_cell? w2 _ d0
    have f0 := cellB hb3 e0
    have f1 := cellB hb3 e1
    have f2 := cellB hb3 e2
    have f3 := cellB hb3 e3
    have hb4 := below_then hB1 hB1.size hb3
    by_cases h32 : ks.length = 32
    · have h33 : (ks.length : Int) = 32 := by omega
      go_wp2_with fail
      go_ret
      refine ⟨hb4, .inl ⟨⟨ks, rfl, h32, HD.out.all_pf hpf⟩, rfl⟩⟩
    · have h33 : ¬ (ks.length : Int) = 32 := by omega
      have j1 : IntKind.i64.wrap ((ks.length : Int) - 1 + 1) = (ks.length : Int) := by rw [IntWalk.i64_in _ (by omega)]; omega
      have j2 : (ks.length : Int) ≤ (cA : Int) := by omega
      have j4 : IntKind.i64.wrap (ks.length : Int) = (ks.length : Int) := IntWalk.i64_in _ (by omega)
      have HAP := Lib.hid (HD.out.all_pf hpf)
      have HAP2 : Hid ((∀ k, k ∈ ks ++ [sing x (h + 1)] → N.Ok k) ∧ (N.flat (ks ++ [sing x (h + 1)])).length ≤ 4294967296) := Lib.hid ⟨fun k hk => by
        rcases List.mem_append.1 hk with hk | hk
        · exact (HAP.out k hk).dn.ok
        · rw [List.mem_singleton] at hk; rw [hk]; exact sing_ok x h, by have := HM.out; rw [flat_append, flat_one, sing_items, List.length_append]; simp; omega⟩
      have hll : (ks ++ [sing x (h + 1)]).length = ks.length + 1 := by simp
      have HSG := Lib.hid (single_calls x _ h w2.drew _ ((HX.out.below hb3).keep Keeps.drew) (by omega))
      have HKC2 := Lib.hid (HKC.out.keep (Keeps.below hb3))
      go_wp2_with fail
      go_region_held3 (fun w' => w'.cell? ⟨b, 0, none⟩ = some (.slice (some A) ks.length cA) ∧ w'.cell? ⟨w.heap.size, 0, none⟩ = some (.int .i64 x.kind) ∧ w'.cell? ⟨w.heap.size, 1, none⟩ = some (.int .i64 x.num) ∧ w'.cell? ⟨w.heap.size, 2, none⟩ = some (.string x.text) ∧ w'.cell? ⟨w.heap.size, 3, none⟩ = some (.slice Ax x.items.length cx))
        (first | go_keep | exact ⟨p0, q0, q1, q2, q3⟩ | exact ⟨p4, z0, z1, z2, z3⟩ | exact ⟨p5, y0, y1, y2, y3⟩)
        (first
          | (go_at_call 54; refine HSG.out.mono ?_; rintro e w3 ⟨u3, rfl, hu3, hb5⟩; have hb6 := below_undrew hb5; have p0 := cellB hb6 d0; have q0 := cellB hb6 f0; have q1 := cellB hb6 f1; have q2 := cellB hb6 f2; have q3 := cellB hb6 f3; have HU3 := Lib.hid (hu3.keep (S' := Old w2 (fun b => S b ∧ b < w.heap.size)) (Keeps.weak fun b hb => hb)); obtain ⟨t3, y3', rfl⟩ := hu3.form; have HKC3 := Lib.hid (HKC2.out.keep (S' := Old w2 (fun b => S b ∧ b < w.heap.size)) (Keeps.below_to hb6 fun b h1 h2 => .inl ⟨h2, h1⟩)); clear hu3)
          | (go_at_call 53; refine HOV.out.mono ?_; rintro e w5 ⟨b5, rfl, hb5', hb8⟩; have p5 := cellB hb8 p4; have y0 := cellB hb8 z0; have y1 := cellB hb8 z1; have y2 := cellB hb8 z2; have y3 := cellB hb8 z3; have HB5 := Lib.hid hb5'; clear hb5')
          | (refine appendN_grow_step (W := w3) (Old w2 (fun b => S b ∧ b < w.heap.size)) rfl (.tmp 76) (.tmp 81) rfl ks A (sing x (h + 1)) _ (by simp [Act.eval, Act.put]) (by simp [Act.eval, Act.put]) HKC3.out HU3.out (by omega) ?_; intro v1 w4 hO hg; have hb7 := Below.grown (Below.refl w3.heap.size w3) hg (Nat.le_refl _) (fun k e => by cases e); have p4 := cellB hb7 p0; have z0 := cellB hb7 q0; have z1 := cellB hb7 q1; have z2 := cellB hb7 q2; have z3 := cellB hb7 q3; obtain ⟨A4, c4, rfl, hc4, hK4⟩ := hO.kc (by simp); have HOV := Lib.hid (over_calls (ks ++ [sing x (h + 1)]) A4 c4 w4 _ hc4 hK4 (by simp) (by simp; omega) HAP2.out.1 HAP2.out.2); rw [hll] at HOV; clear hO hg hK4))
      all_goals go_wp2_with fail
      all_goals
        go_ret
        refine ⟨below_then (below_then (below_then hb4 hb4.size hb6) (below_then hb4 hb4.size hb6).size hb7) (below_then (below_then hb4 hb4.size hb6) (below_then hb4 hb4.size hb6).size hb7).size hb8, .inr ⟨_, _, rfl, IsN.branch_mk (HB5.out.keep (Keeps.weak fun b hb => ?_)), push_new HAP.out (by omega), by rw [N.items, flat_append, flat_one, sing_items], fun ks1 e => ⟨_, rfl, by injection e with e; rw [← e]; simp⟩⟩⟩
        have s1 := hb4.size
        have s2 := hb6.size
        have s3 := hb7.size
        rcases hb with ⟨(⟨hb, _⟩ | hb) | hb, _⟩ | hb
        · exact .inl hb
        · exact .inr (by omega)
        · exact .inr (by omega)
        · exact .inr (by omega)
  · have hb3 := below_undrew hb2
    have d0 := cellB hb3 c0
    have hbl2 := World.block_lt_of_cell? w2 _ d0
    have hb4 := below_then hB1 hB1.size hb3
    obtain ⟨t, y, rfl⟩ := hu2.form
    have HU2 := Lib.hid (hu2.keep (S' := Old w1 (fun b => S b ∧ b < w.heap.size)) (Keeps.weak fun b hb => hb))
    have HR2 := Lib.hid (And.intro hd2 (And.intro hi2 hr2))
    have HKC2 := Lib.hid (HKC.out.keep (S' := Old w1 (fun b => S b ∧ b < w.heap.size)) (Keeps.below_to hb3 fun b h1 h2 => .inl ⟨h2, h1⟩))
    have hs2 := hb2.size
    clear hu2 hd2 hi2 hr2 HC
    go_wp2_with (first
      | (at_builtin; refine appendN_copy (Old w1 (fun b => S b ∧ b < w.heap.size)) rfl _ _ rfl ks A cA rfl rfl HKC2.out (by omega) ?_; intro v1 w3 hO hg; have hb5 := Below.grown (Below.refl w2.heap.size w2) hg (Nat.le_refl _) (fun k e => by cases e); obtain ⟨g, c3, uq, rfl, hc3, hgb, hgl, hcq, huq⟩ := hO.at i7; have hU3 := HU2.out.keep (S' := fun b => Old w1 (fun b => S b ∧ b < w.heap.size) b ∧ some b ≠ (Value.slice (some ⟨g, 0, none⟩) ks.length c3).ownBlock) (Keeps.below_to hb5 fun b h1 h2 => ⟨h2, fun e => by injection e with e; simp at e; omega⟩); obtain ⟨g', c3', he, _, _, _, hfz, hO4⟩ := hO.store i7 hU3; simp only [Value.slice.injEq, Option.some.injEq, Addr.mk.injEq, and_true, true_and] at he; obtain ⟨rfl, rfl⟩ := he; have hpl := plus0 g; have HO4 := Lib.hid hO4; clear hO hO4 huq hU3)
      | fail)
    have hdn := HD.out.set_last HR2.out.1
    have hfl := flat_set_last hk0 HR2.out.2.1
    have hll : (ks.set (ks.length - 1) k').length = ks.length := List.length_set
    have hc5 := hb5.size
    have hm5 := HM.out
    obtain ⟨A4, c4, he4, hc4, hK4⟩ := HO4.out.kc (fun e => by have := congrArg List.length e; rw [hll, List.length_nil] at this; omega)
    rw [hll] at he4
    simp only [Value.slice.injEq, Option.some.injEq, true_and] at he4
    obtain ⟨rfl, rfl⟩ := he4
    have HOV := over_calls (ks.set (ks.length - 1) k') ⟨g, 0, none⟩ c3 _ _ hc4 hK4 (by rw [hll]; omega) (by rw [hll]; omega) hdn.ok.branch.2.2 (by rw [hfl, List.length_append]; simp; omega)
    rw [hll] at HOV
    refine HOV.mono ?_
    rintro e w5 ⟨b5, rfl, hb6, hb7⟩
    have HB5 := Lib.hid hb6
    clear hb6
    go_wp2_with fail
    go_ret
    have hw5 : Below w.heap.size w w5 := by
      have h1 := below_then hb4 hb4.size hb5
      have s0 := hb4.size
      have h2 := h1.setCell (p := ⟨g, ks.length - 1, none⟩) (by show w.heap.size ≤ g; omega) (Value.iface t y)
      exact below_then h2 h2.size hb7
    refine ⟨hw5, .inr ⟨_, _, rfl, IsN.branch_mk (HB5.out.keep (Keeps.weak fun b hb => ?_)), hdn, hfl, fun ks1 e => ⟨_, rfl, by injection e with e; rw [← e, hll]; exact Nat.le_refl _⟩⟩⟩
    have s1 := hb4.size
    rcases hb with ⟨(⟨hb, _⟩ | hb) | hb, _⟩ | hb
    · exact .inl hb
    · exact .inr (by omega)
    · exact .inr (by omega)
    · exact .inr (by simp at hb; omega)
theorem push_all : ∀ h, PushAt h
  | 0 => fun k u x vx w S hd => hd.elim
  | 1 => push_one
  | h + 2 => push_branch h (push_all (h + 1))
end Go.Proofs.YtaeldfnihocljaaDoor
