/- The items of a deque, an array of the call's own; a deque turned about. A deque turned about. -/
import Derived.Test.YtjjbhnkplbjfeaaDoorCSpY
import Derived.Test.YtjjbhnkplbjfeaaDoorCFnO
/- The items of a deque, an array of the call's own; a deque turned about. -/
set_option linter.unusedVariables false
set_option linter.unusedSimpArgs false
namespace Go.Proofs.YtjjbhnkplbjfeaaDoor
open Go.RowKit Go.Shelf
attribute [local go_sem] Oper.semAt_some lt_succ_of
theorem OwnL.mono {w : World} {base base' : Nat} {S S' : Nat → Prop} {l : List V} {v : Value} (h : OwnL w base S l v) (hb : base' ≤ base) (hs : ∀ b, S b → S' b) : OwnL w base' S' l v := by
  obtain ⟨xs, ⟨h1, h2⟩, h3⟩ := h
  refine ⟨xs, ⟨h1, ?_⟩, h3.keep (Keeps.weak fun b hb => ⟨hs b hb.1, hb.2⟩)⟩
  rcases h2 with h2 | ⟨g, cap, cur, e, hg, h4⟩
  · exact .inl h2
  · exact .inr ⟨g, cap, cur, e, Nat.le_trans hb hg, h4⟩
set_option maxRecDepth 100000 in
set_option maxHeartbeats 8000000 in
theorem items_own (l : List V) (p : Option Addr) (w : World) (S0 : Nat → Prop) (hr : IsD w S0 l p) :
    Calls Tryd.prog 37 #[.pointer p] w fun e w' => ∃ v, e = .returned v ∧ OwnL w' w.heap.size (fun b => w.heap.size ≤ b) l v ∧ Below w.heap.size w w' := by
  refine (callsIn_wide (n := 9)).1 ?_
  have hl65 := hr.1
  have hrS : IsD w (fun b => S0 b ∧ b < w.heap.size) l p := hr.keep fun b hb hs => ⟨⟨hs, hb⟩, rfl⟩
  clear hr
  refine callsIn_of_wp_marks Tryd.func37 rfl trivial ?_ rfl
  simp only [Tryd.ntmps37, List.size_toArray, List.length_cons, List.length_nil, Nat.reduceAdd, Nat.reduceSub, Array.replicate_succ, Array.replicate_zero, List.push_toArray, List.append_toArray, List.nil_append, List.cons_append]
  obtain ⟨w1, hw1, hB1, hsz, hb0⟩ : ∃ w1, w.alloc (.cells #[.slice none 0 0] 22) = w1 ∧ Below w.heap.size w w1 ∧ w.heap.size + 1 = w1.heap.size ∧ w1.heap[w.heap.size]? = some (.cells #[.slice none 0 0] 22 (0, 0)) :=
    ⟨_, rfl, (Below.refl _ _).alloc (Nat.le_refl _) _, by simp, heap_alloc_new w _⟩
  have HC := Lib.hid (callsIn_wide (n := 8).2 (all_calls p w1))
  gi_wp2_with (first | (refine ⟨trivial, ?_⟩; gi_at_call 69; refine HC.out.mono ?_; rintro e w2 ⟨rfl, hX, hb2⟩; have HX := Lib.hid hX; clear hX))
  have hsz2 := hb2.size
  have hB2 : Below w.heap.size w w2 := below_then hB1 hB1.size hb2
  have hb02 := blockB hb2 hb0
  refine range_law 9 (gf := 100) (lb := #[.pointer (some ⟨w1.heap.size, 0, none⟩)]) rfl enters_all (G := l) (S := fun b => S0 b ∧ b < w.heap.size)
    (all_each l p _ _ w2 HX.out (hrS.below hB2)) rfl
    (fun T pre W => (∃ v, W.heap[w.heap.size]? = some (.cells #[v] 22 (0, 0)) ∧ OwnL W (w2.heap.size + 2) (fun b => w2.heap.size + 2 ≤ b) pre v ∧ ∀ b, T b → b ≠ w.heap.size ∧ b < W.heap.size ∧ v.ownBlock ≠ some b) ∧ Below w.heap.size w W ∧ w2.heap.size ≤ W.heap.size)
    (fun _ _ _ => False) ?hI (fun _ _ _ _ h _ => h) ?start ?round ?done (fun _ _ _ _ _ _ h _ => h.elim)
  case start =>
    intro T W hb hsz3 hT
    refine ⟨⟨_, blockB hb hb02, OwnL.nil _ _ _, fun b h => ?_⟩, below_then hB2 hB2.size hb, by omega⟩
    have := hT b h
    exact ⟨by omega, by omega, by simp [Value.ownBlock]⟩
  case hI =>
    rintro T s W W' ⟨⟨v, hv, hown, hT⟩, hbel, hsz3⟩ hg
    refine ⟨⟨v, (hg.block _ (Array.getElem?_eq_some_iff.1 hv).1 (fun e => by injection e with e; omega)).trans hv, hown.keep (Keeps.grown hg fun k e (h : w2.heap.size + 2 ≤ k) => by injection e with e; omega) fun k hk => hg.block k (hown.own_lt k hk).2 (fun e => by injection e with e; have := (hown.own_lt k hk).1; omega), fun b hb => ⟨(hT b hb).1, Nat.lt_of_lt_of_le (hT b hb).2.1 hg.size, (hT b hb).2.2⟩⟩, hbel.grown hg hbel.size (fun k hk => by injection hk with hk; omega), Nat.le_trans hsz3 hg.size⟩
  case round =>
    rintro T l0 pre x v W0 W m ⟨⟨v0, hv0, hown, hT0⟩, hbel, hsz0⟩ hW hszW hv hpre
    obtain ⟨hbd, A, cap, rfl, hcap, hLA⟩ := hv.eq
    gi_wp2
    refine ⟨(Below.refl _ _).alloc (Nat.le_refl _) _, ?_⟩
    rintro Wb hgb ⟨⟨v, hvb, hob, hTb⟩, hbelb, hszb⟩
    have hsW := hW.size
    have hne : W.heap.size ≠ w2.heap.size + 1 := by omega
    have hbx : Wb.heap[W.heap.size]? = some (.cells #[.int .i64 x.kind, .int .i64 x.num, .string x.text, .slice A x.items.length cap] 33 (0, 0)) := (hgb.block W.heap.size (by simp) (fun e => hne (by injection e))).trans (heap_alloc_new W _)
    have hvv : v = v0 := by
      have h1 := (hgb.block w.heap.size (by simp; omega) (fun e => by injection e with e; omega)).symm.trans hvb
      rw [Below.heap_alloc _ _ _ (by omega), hW.block w.heap.size (by omega), hv0] at h1
      injection h1 with h1
      injection h1 with h1
      injection h1 with h1
      injection h1 with h1
      exact h1.symm
    subst hvv
    have hown2 := hown.own_lt
    obtain ⟨A2, c2, rfl, hc2⟩ := hob.form
    have hKy : Keeps W (fun b => W0.heap.size ≤ b) Wb (fun b => w2.heap.size + 2 ≤ b ∧ some b ≠ (Value.slice A2 pre.length c2).ownBlock) := by
      refine ((Keeps.alloc _).trans (Keeps.grown hgb fun k e (h : W0.heap.size ≤ k) => by injection e with e; omega)).trans (Keeps.weak fun b (h : W0.heap.size ≤ b) => ⟨by omega, fun e => by have := (hown2 b e.symm).2; omega⟩)
    have hy := VC.mk hbd hcap (hLA.keep hKy)
    have hlen : pre.length ≤ 4294967296 := by
      have h1 := hpre.length_le
      rw [List.length_append] at h1
      omega
    have hwb := hgb.size
    simp only [World.size_alloc] at hwb
    gi_wp2
    refine round_items l0 m Wb (w2.heap.size + 2) (fun b => w2.heap.size + 2 ≤ b) w.heap.size W.heap.size pre A2 c2 x _ _ _ _ _ _ _ _ _ _ _ _ _ _ _ _ _ _ hvb hbx rfl ⟨_, _, _, rfl⟩ hob (by omega) hlen (by omega) (fun e => by have := (hown2 _ e).1; omega) (fun e => by have := (hown2 _ e).2; omega) hy ?_
    intro a' v1 W' h1 h2 h3
    refine ⟨⟨h3.size, fun k o hk ho hoc => ?_⟩, ⟨h3.size, fun k hk => ?_⟩, ⟨⟨v1, h1, h2, fun b hb => ⟨(hTb b hb).1, Nat.lt_of_lt_of_le (hTb b hb).2.1 h3.size, fun e => ?_⟩⟩, ⟨h3.os.trans hbelb.os, h3.tape.trans hbelb.tape, h3.output.trans hbelb.output, Nat.le_trans hbelb.size h3.size, fun k hk => ?_⟩, Nat.le_trans hszb h3.size⟩⟩
    · have hkl := (Array.getElem?_eq_some_iff.1 ho).1
      refine (h3.block k hkl (fun e => ?_) (fun e => ?_)).trans ho
      · omega
      · obtain ⟨xs, ⟨_, hh⟩, _⟩ := hob
        rcases hh with ⟨hh, _⟩ | ⟨g, cap', cur, hh, hg1, hg2, _⟩
        · rw [hh] at e; cases e
        · rw [hh] at e
          injection e with e
          subst e
          rw [hg2] at ho
          cases ho
          cases hoc
    · exact h3.block k (hTb k hk).2.1 (hTb k hk).1 (fun e => (hTb k hk).2.2 e.symm)
    · rcases h3.own with h4 | ⟨g, h4, h5⟩
      · rw [h4] at e; exact (hTb b hb).2.2 e
      · rw [h4] at e; injection e with e; have := (hTb b hb).2.1; omega
    · rw [h3.block k (by omega) (by omega) (fun e => by have := (hown2 k e.symm).1; omega)]
      exact hbelb.block k hk
  case done =>
    rintro T D W hD ⟨⟨v, hv, hown, _⟩, hbel, hszD⟩ hK
    obtain ⟨A2, c2, rfl, hc2⟩ := hown.form
    have hcv : W.cell? ⟨w.heap.size, 0, none⟩ = some (.slice A2 l.length c2) := by simp [World.cell?, hv]
    have hlen := (Array.getElem?_eq_some_iff.1 hv).1
    have HO := Lib.hid hown
    have HV := Lib.hid hv
    clear hown hv
    gi_wp2
    refine ⟨by simp, .inl ⟨_, _, rfl, run_takeDeferred hK, ?_⟩⟩
    have hg := grownBy_putObj' W D (.deferred none)
    have hO2 : OwnL (W.putObj D (.deferred none)) (w2.heap.size + 2) (fun b => w2.heap.size + 2 ≤ b) l (.slice A2 l.length c2) :=
      HO.out.keep (Keeps.grown hg fun k e (h : w2.heap.size + 2 ≤ k) => by injection e with e; omega) fun k hk => hg.block k (HO.out.own_lt k hk).2 (fun e => by injection e with e; have := (HO.out.own_lt k hk).1; omega)
    have hI : OwnL (W.putObj D (.deferred none)) w.heap.size (fun b => w.heap.size ≤ b) l (.slice A2 l.length c2) := hO2.mono (by omega) (fun b (h : w2.heap.size + 2 ≤ b) => show w.heap.size ≤ b by omega)
    exact ⟨_, results_tmp rfl _ _ _, .slice A2 l.length c2, rfl, hI, hbel.grown hg hbel.size (fun k hk => by injection hk with hk; omega)⟩
end Go.Proofs.YtjjbhnkplbjfeaaDoor

/- A deque turned about. -/
set_option linter.unusedVariables false
set_option linter.unusedSimpArgs false
namespace Go.Proofs.YtjjbhnkplbjfeaaDoor
open Go.RowKit
attribute [local go_sem] lt_succ_of methWeight methItems

theorem rev_ok {l : List V} (h : listE l = 0) : listE l.reverse = 0 := listE_perm h (fun x hx => List.mem_reverse.1 hx) (by simp)
set_option maxRecDepth 100000 in
theorem whole_own (l : List V) (p : Option Addr) (w : World) (S : Nat → Prop) (h : IsD w S l p) :
    Calls Tryd.prog 84 #[.pointer p] w fun e w' => ∃ v, e = .returned (.iface 147 (.agg #[v])) ∧ OwnL w' w.heap.size (fun b => w.heap.size ≤ b) l v ∧ Below w.heap.size w w' := by
  have HI := Lib.hid (items_own l _ w S h)
  clear h
  go_enter Tryd.func84, Tryd.ntmps84
  go_wp2_with (first | (go_at_call 37; refine HI.out.mono ?_; rintro e w2 ⟨v2, rfl, hv2, hb2⟩; have HV := Lib.hid hv2; obtain ⟨A2, c2, rfl, _⟩ := hv2.form; clear hv2))
  go_ret
  exact ⟨_, rfl, HV.out, hb2⟩
set_option maxRecDepth 100000 in
set_option maxHeartbeats 4000000 in
theorem reverse_calls (l : List V) (p : Option Addr) (w : World) (S : Nat → Prop) (h : IsD w S l p) (hok : listE l = 0) (hT : Lib.Utf8Tabs 1 2 w) :
    Calls Tryd.prog 48 #[.pointer p] w fun e w' => ∃ b, e = .returned (.pointer (some ⟨b, 0, none⟩)) ∧ IsE w' (fun _ => True) l.reverse b ∧ Below w.heap.size w w' := by
  have HW := Lib.hid (whole_own l _ w S h)
  have HT := Lib.hid hT
  have HOK := Lib.hid (rev_ok hok)
  have H65 := Lib.hid h.1
  clear h hT hok
  go_enter Tryd.func48, Tryd.ntmps48
  go_wp2_with (first
    | (go_at_call 84; refine HW.out.mono ?_; rintro e w2 ⟨v2, rfl, hv2, hb2⟩; have HV2 := Lib.hid hv2; obtain ⟨A2, c2, rfl, _⟩ := hv2.form; clear HW hv2)
    | (go_at_call 152; refine (spanitems_calls _ _).mono ?_; rintro e w3 ⟨rfl, hb3'⟩; have hb3 := chain_then hb2 hb3'; have HR := Lib.hid (sreverse_calls l _ w3 w.heap.size _ (HV2.out.below hb3') H65.out))
    | (go_at_call 86; refine HR.out.mono ?_; rintro e w4 ⟨⟨_, rfl⟩, hv4, hb4'⟩; have hb4 := hb3.trans (hb4' _ (Nat.le_refl _)); have HV4 := Lib.hid (hv4.is (S' := fun _ => True) (fun _ _ => trivial) (fun _ _ => trivial) (by have := H65.out; simp; omega)); clear HR hv4))
  have hb5 := alloc_of hb4 (.cells #[.slice A2 l.length c2] 22)
  refine (built_one (HV4.out.below (alloc_of (Below.refl _ _) _)) (heap_alloc_new _ _) HOK.out (tabs_below HT.out hb5)).mono ?_
  rintro e w6 ⟨b6, rfl, hv6, hb6'⟩
  have HV6 := Lib.hid hv6
  have hb6 := chain_then hb5 hb6'
  clear hv6
  go_wp2_with fail
  go_ret
  exact ⟨_, rfl, HV6.out, hb6⟩
theorem neg_mod (k : Int) (n j : Nat) (h0 : 0 < n) (hj : k % (n : Int) = (j : Int)) (hjn : j < n) : (-k) % (n : Int) = (if j = 0 then 0 else ((n - j : Nat) : Int)) := by
  have hk : k = (j : Int) + n * (k / n) := by have := Int.emod_def k n; rw [hj] at this; omega
  rw [hk, show -((j : Int) + n * (k / n)) = -(j : Int) + n * (-(k / n)) by rw [Int.mul_neg]; omega, Int.add_mul_emod_self_left]
  by_cases e : j = 0
  · subst e; rw [if_pos rfl]; simp
  · rw [if_neg e, show (-(j : Int)) = ((n - j : Nat) : Int) + n * (-1) by omega, Int.add_mul_emod_self_left]
    exact Int.emod_eq_of_lt (by omega) (by omega)
theorem rot_back (l : List V) (k : Int) : rotV (rotV l k) (-k) = l := by
  by_cases h0 : l.length = 0
  · obtain rfl := List.length_eq_zero_iff.1 h0
    simp [rotV]
  · obtain ⟨j, hj⟩ : ∃ j : Nat, k % (l.length : Int) = (j : Int) := ⟨(k % (l.length : Int)).toNat, by have := Int.emod_nonneg k (show (l.length : Int) ≠ 0 by omega); omega⟩
    have hjl : j < l.length := by have := Int.emod_lt_of_pos k (show (0 : Int) < (l.length : Int) by omega); omega
    have hm := neg_mod k l.length j (by omega) hj hjl
    have h1 : rotV l k = l.drop j ++ l.take j := by unfold rotV; rw [hj]; rfl
    have h2 : rotV (rotV l k) (-k) = (rotV l k).drop ((-k) % (l.length : Int)).toNat ++ (rotV l k).take ((-k) % (l.length : Int)).toNat := by
      have hd : ∀ (m : List V) (q : Int), rotV m q = m.drop (q % (m.length : Int)).toNat ++ m.take (q % (m.length : Int)).toNat := fun _ _ => rfl
      rw [hd (rotV l k) (-k), rotV_length]
    rw [h2, hm, h1]
    by_cases e : j = 0
    · subst e; simp
    · rw [if_neg e, Int.toNat_natCast, List.drop_left' (by rw [List.length_drop]), List.take_left' (by rw [List.length_drop]), List.take_append_drop]
set_option maxRecDepth 100000 in
set_option maxHeartbeats 4000000 in
theorem refreverse_calls (l : List V) (vl : Value) (w : World) (S : Nat → Prop) (h : IsS w S l vl) (h65 : l.length ≤ 65536) :
    Calls Tryd.prog 49 #[vl] w fun e w' => ∃ v, e = .returned v ∧ IsS w' (Old w S) l.reverse v ∧ Below w.heap.size w w' := by
  obtain ⟨A, c, rfl, hc, hl, hA⟩ := h.keep (S' := fun b => S b ∧ b < w.heap.size) (w' := w) (fun b hb hs => ⟨⟨hs, hb⟩, rfl⟩)
  have HA := Lib.hid hA
  have hlA : ∀ k, k < l.length → l.reverse.take (k + 1) = l.reverse.take k ++ [itemAt l (l.length - 1 - k)] := fun k hk => by
    rw [itemAt_take (by simpa using hk), itemAt_reverse hk]
  have HLA := Lib.hid hlA
  clear hA h hlA
  go_enter Tryd.func49, Tryd.ntmps49
  go_wp2_with fail
  go_loopw [3, 4] (fun vv vi wr => ∃ (k : Nat) (v : Value), v = vv ∧ vi = .int .i64 ((l.length : Int) - 1 - k) ∧ k ≤ l.length ∧ Hid (OwnL wr w.heap.size (fun b => S b ∧ b < w.heap.size) (l.reverse.take k) v) ∧ Below w.heap.size w wr) (fun _ v _ => (intOf v + 1).toNat)
  case atStart => exact ⟨0, .slice none 0 0, rfl, by simp, by omega, Lib.hid (OwnL.nil _ _ _), Below.refl _ _⟩
  case round =>
    obtain ⟨k, v, rfl, rfl, hk, hO, hf⟩ := hrel
    by_cases hlt : k < l.length
    · obtain ⟨j, hj⟩ : ∃ j : Nat, l.length - 1 - k = j := ⟨_, rfl⟩
      have hji : (l.length : Int) - 1 - k = (j : Int) := by omega
      have hn := HLA.out k hlt
      rw [hj] at hn
      rw [hji]
      have hjl : j < l.length := by omega
      have hj2 : (j : Int) < (l.length : Int) := by omega
      obtain ⟨ad, A1, cap1, rfl, hla', hbd, f0, f1, f2, f3, hcap1, hLA⟩ := (HA.out.keep (w' := wr) (S' := fun b => S b ∧ b < w.heap.size) (fun b h1 h2 => ⟨h2, hf.block b h1⟩)).at j hjl
      have hown := hO.out.own_lt
      have HVC := Lib.hid ((VC.mk hbd hcap1 hLA).keep (w' := wr) (S' := fun b => (S b ∧ b < w.heap.size) ∧ some b ≠ v.ownBlock) (Keeps.weak fun b h => ⟨h, fun e => by have := (hown b e.symm).1; omega⟩))
      have i1 : IntKind.i64.wrap ((j : Int) - 1) = (j : Int) - 1 := IntWalk.i64_in _ (by omega)
      have hsz := hf.size
      have HN := Lib.hid hn
      have HJ := Lib.hid hji
      clear hbd hLA hn hji hla' hcap1 hj
      go_wp2_with (at_builtin; refine append_one w.heap.size (fun b => S b ∧ b < w.heap.size) rfl _ _ rfl v (l.reverse.take k) (itemAt l j) _ _ _ _ rfl rfl hO.out HVC.out hsz (by rw [List.length_take, List.length_reverse]; omega) ?_; intro v2 w2 hO2 hg2; have hb2 := Below.grown hf hg2 hsz (fun k e => (hown k e).1); rw [← HN.out] at hO2; have HO2 := Lib.hid hO2; clear hO2)
      go_roundw
      case rel => exact ⟨k + 1, v2, rfl, by have := HJ.out; simp; omega, by omega, HO2, hb2⟩
      case measure => simp [intOf]
    · have hd : decide ((0 : Int) ≤ (l.length : Int) - 1 - k) = false := decide_eq_false (by omega)
      have hd2 : ¬ ((0 : Int) ≤ (l.length : Int) - 1 - k) := by omega
      have hO2 := hO.out
      rw [List.take_of_length_le (by simp; omega)] at hO2
      have HO2 := Lib.hid hO2
      have HV2 := Lib.hid (hO2.is (S' := Old w S) (fun b h => .inl h) (fun b h => .inr h) (by simp; omega))
      clear hO hO2
      go_wp2_with fail
      go_ret
      exact ⟨_, rfl, HV2.out, hf⟩
end Go.Proofs.YtjjbhnkplbjfeaaDoor
