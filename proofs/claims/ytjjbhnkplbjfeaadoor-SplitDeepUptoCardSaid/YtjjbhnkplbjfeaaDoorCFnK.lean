/- A tree with another item in a place. -/
import Derived.Shelf.Abstract
import Derived.Test.YtjjbhnkplbjfeaaDoorCFnJ
import Derived.Test.YtjjbhnkplbjfeaaDoorCBut

set_option linter.unusedVariables false
set_option linter.unusedSimpArgs false
namespace Go.Proofs.YtjjbhnkplbjfeaaDoor
open Go.RowKit Go.Shelf
attribute [local go_sem] lt_succ_of methItem methNode asItem asNode isNode noNode fieldNode fieldItem notNil

/-- What a function that is handed to change does with item x: it answers y, changes blocks of M alone, and behind it Q holds. -/
def DoIs (g : FuncId) (lb : List Value) (x y : V) (M : Nat → Prop) (w : World) (S : Nat → Prop) (Q : Nat → World → Prop) : Prop :=
  ∀ W vx S', Below w.heap.size w W → IsV W S' x vx → (∀ b, M b → ¬ S' b) → Calls Tryd.prog g (vx :: lb).toArray W fun e w' => ∃ u, e = .returned u ∧ IsV w' (fun b => (S b ∧ b < w.heap.size) ∨ S' b ∨ W.heap.size ≤ b) y u ∧ But M W w' ∧ Q W.heap.size w'
theorem DoIs.later {g : FuncId} {lb : List Value} {x y : V} {M : Nat → Prop} {w w1 : World} {S S1 : Nat → Prop} {Q : Nat → World → Prop} (h : DoIs g lb x y M w S Q) (hb : Below w.heap.size w w1) (hs : ∀ b, S b → b < w.heap.size → S1 b) : DoIs g lb x y M w1 S1 Q :=
  fun W vx S' hW hv hM => (h W vx S' (below_then hb hb.size hW) hv hM).mono fun e w' ⟨u, e1, hu, h2⟩ => ⟨u, e1, hu.keep (Keeps.weak fun b hb' => hb'.imp (fun h3 => ⟨hs b h3.1 h3.2, Nat.lt_of_lt_of_le h3.2 hb.size⟩) id), h2⟩
/-- What Q says hangs on blocks of M and on those from n on alone. -/
def Lasts (M : Nat → Prop) (Q : Nat → World → Prop) : Prop := (∀ n w w', w.heap.size ≤ w'.heap.size → (∀ b, b < w.heap.size → (M b ∨ n ≤ b) → w'.heap[b]? = w.heap[b]?) → Q n w → Q n w') ∧ ∀ n m w, m ≤ n → Q n w → Q m w
theorem Lasts.below {M : Nat → Prop} {Q : Nat → World → Prop} (h : Lasts M Q) {n m : Nat} {w w' : World} (hb : Below w.heap.size w w') (hm : m ≤ n) (hq : Q n w) : Q m w' := h.2 n m w' hm (h.1 n w w' hb.size (fun b h1 _ => hb.block b h1) hq)
/-- What is asked of a call that makes a part in the place of another one. -/
def MadeP (M : Nat → Prop) (w : World) (S : Nat → Prop) (Q : Nat → World → Prop) (p : Pt) (e : Ending) (w' : World) : Prop := ∃ u, e = .returned u ∧ IsP w' (Old w S) p u ∧ But M w w' ∧ Q w.heap.size w'
theorem changed_at : ∀ {ks : List Pt} {k i : Nat} {y : V}, k < ks.length → aheadP ks k ≤ i → i - aheadP ks k < (ptAt ks k).items.length → Pt.changed ks i y = ks.set k ((ptAt ks k).change (i - aheadP ks k) y)
  | [], k, i, y, h, _, _ => by simp at h
  | p :: ks, 0, i, y, _, _, h => by
    rw [aheadP_zero] at h ⊢
    have : ptAt (p :: ks) 0 = p := rfl
    rw [this] at h ⊢
    rw [Pt.changed, if_pos (by simpa using h)]
    rfl
  | p :: ks, k + 1, i, y, hk, h1, h2 => by
    have e1 : aheadP (p :: ks) (k + 1) = p.items.length + aheadP ks k := by simp [aheadP, pflat_cons]
    have e2 : ptAt (p :: ks) (k + 1) = ptAt ks k := rfl
    rw [e1] at h1 h2 ⊢
    rw [e2] at h2 ⊢
    rw [Pt.changed, if_neg (by omega), changed_at (ks := ks) (k := k) (i := i - p.items.length) (by simpa using hk) (by omega) (by rw [show i - p.items.length - aheadP ks k = i - (p.items.length + aheadP ks k) by omega]; exact h2)]
    rw [show i - p.items.length - aheadP ks k = i - (p.items.length + aheadP ks k) by omega]
    rfl
theorem But.old {M : Nat → Prop} {w w' : World} {S : Nat → Prop} (h : But M w w') (hs : ∀ b, M b → ¬ S b) : Keeps w S w' (Old w S) := fun b hb h1 => ⟨.inl ⟨h1, hb⟩, h.block b hb fun h2 => hs b h2 h1⟩
theorem hM_old {M S : Nat → Prop} {w : World} (hM : ∀ b, M b → ¬ S b ∧ b < w.heap.size) (b : Nat) (h : M b) : ¬ Old w S b := fun h2 => by
  rcases h2 with h2 | h2
  · exact (hM b h).1 h2.1
  · have := (hM b h).2; omega
set_option maxRecDepth 100000 in
set_option maxHeartbeats 8000000 in
theorem change_item (x y : V) (i : Int) (u : Value) (g : FuncId) (lb : List Value) (M : Nat → Prop) (w : World) (S : Nat → Prop) (Q : Nat → World → Prop) (hu : IsP w S (.item x) u) (hdo : DoIs g lb x y M w S Q) (hQ : Lasts M Q) (hM : ∀ b, M b → ¬ S b ∧ b < w.heap.size) (eg : ∀ args w, (callFunc g args).run Tryd.prog w = .ok (.enter g args) w) :
    Calls Tryd.prog 114 #[u, .int .i64 i, .func (.func g) #[] lb.toArray] w (MadeP M w S Q (.item y)) := by
  obtain ⟨A, c, rfl, hv⟩ := hu.item_eq
  have HD := Lib.hid hdo
  have HV := Lib.hid (hv.keep (S' := fun b => S b ∧ b < w.heap.size) fun b hb hs => ⟨⟨hs, hb⟩, rfl⟩)
  have HM := Lib.hid hM
  have hB1 : Below w.heap.size w (w.alloc (.cells #[.int .i64 0, .slice none 0 0] 137)) := alloc_of (Below.refl _ _) _
  clear hu hdo hv hM
  go_enter Tryd.func114, Tryd.ntmps114
  go_wp2_with fail
  refine (HD.out _ _ _ hB1 (HV.out.keep (Keeps.below hB1)) (fun b h h2 => (HM.out b h).1 h2.1)).mono ?_
  rintro e w2 ⟨u2, rfl, hu2, hb2, hq2⟩
  have HU := Lib.hid (hu2.keep (S' := Old w S) (Keeps.weak fun b hb => by
    rcases hb with hb | hb | hb
    · exact .inl hb
    · exact .inl hb
    · exact .inr (Nat.le_trans hB1.size hb)))
  have HB := Lib.hid ((But.of (M := M) hB1).trans hb2)
  have HQ := Lib.hid hq2
  obtain ⟨_, A2, c2, rfl, _, _⟩ := hu2.eq
  clear hu2 hb2 hq2 HD HV
  go_wp2_with fail
  go_ret
  exact ⟨_, rfl, IsP.item_mk HU.out, HB.out, hQ.2 _ _ _ hB1.size HQ.out⟩
/-- What change does with parts of a level. -/
def ChangeP (k : Nat) : Prop := ∀ (p : Pt) (i : Nat) (y : V) (u : Value) (g : FuncId) (lb : List Value) (M : Nat → Prop) (w : World) (S : Nat → Prop) (Q : Nat → World → Prop), Pt.Lev k p → IsP w S p u → i < p.items.length → p.items.length ≤ 4294967296 → DoIs g lb (itemAt p.items i) y M w S Q → Lasts M Q →
  (∀ b, M b → ¬ S b ∧ b < w.heap.size) → (∀ args w, (callFunc g args).run Tryd.prog w = .ok (.enter g args) w) → Calls Tryd.prog 114 #[u, .int .i64 i, .func (.func g) #[] lb.toArray] w (MadeP M w S Q (p.change i y))
theorem itemAt_flat {ks : List Pt} {k i : Nat} (hk : k < ks.length) (h1 : aheadP ks k ≤ i) (h2 : i - aheadP ks k < (ptAt ks k).items.length) : itemAt (Pt.flat ks) i = itemAt (ptAt ks k).items (i - aheadP ks k) := by
  have e : Pt.flat ks = Pt.flat (ks.take k) ++ ((ptAt ks k).items ++ Pt.flat (ks.drop (k + 1))) := by
    conv => lhs; rw [← List.take_append_drop k ks, ptAt_drop hk, pflat_append, pflat_cons]
  rw [e]
  unfold aheadP at h1 h2 ⊢
  rw [itemAt, itemAt, List.getD_eq_getElem?_getD, List.getD_eq_getElem?_getD, List.getElem?_append_right h1, List.getElem?_append_left h2]
theorem out_store {M : Nat → Prop} {w w2 w3 w4 : World} {S : Nat → Prop} {ks : List Pt} {v u4 : Value} {p' : Pt} {kk : Nat} {Q : Nat → World → Prop} (hQ : Lasts M Q) (hb2 : Below w.heap.size w w2) (hv : OwnP w2 w.heap.size (fun b => S b ∧ b < w.heap.size) ks v) (hf3 : Below w2.heap.size w2 w3) (hb4 : But M w3 w4)
    (hM : ∀ b, M b → ¬ S b ∧ b < w.heap.size) (hu : IsP w4 (Old w3 (fun b => S b ∧ b < w.heap.size)) p' u4) (hq : Q w3.heap.size w4) (hk : kk < ks.length) :
    ∃ g c, v = .slice (some ⟨g, 0, none⟩) ks.length c ∧ g < w4.heap.size ∧ (w4.cell? ⟨g, kk, none⟩).isSome = true ∧ w4.frozen? ⟨g, kk, none⟩ = false ∧ IsPs (w4.setCell ⟨g, kk, none⟩ u4) (Old w S) (ks.set kk p') v ∧ But M w (w4.setCell ⟨g, kk, none⟩ u4) ∧ Q w.heap.size (w4.setCell ⟨g, kk, none⟩ u4) := by
  have hlt := hv.own_lt
  have s2 := hb2.size
  have s3 := hf3.size
  have s4 := hb4.size
  have hown4 : OwnP w4 w.heap.size (Old w S) ks v := hv.keep (fun b hb hs => ⟨.inl hs, (hb4.block b (by omega) fun h => (hM b h).1 hs.1).trans (hf3.block b hb)⟩) fun g hg => by
    have h1 := hlt g hg
    exact (hb4.block g (by omega) fun h => by have := (hM g h).2; omega).trans (hf3.block g h1.2)
  obtain ⟨g, c, e, hg, hgl, h5, h6, h7⟩ := hown4.store hk (k := p') (u := u4) (hu.keep (Keeps.weak fun b hb => by
    rcases hb with ⟨hb, _⟩ | hb
    · exact ⟨.inl hb, fun e => by have := hlt b e.symm; omega⟩
    · exact ⟨.inr (by omega), fun e => by have := hlt b e.symm; omega⟩))
  have hg2 : g < w2.heap.size := by have := hlt g (by rw [e]; rfl); omega
  refine ⟨g, c, e, hgl, h5, h6, ?_, ((But.of hb2).trans ((But.of hf3).trans hb4)).set (.inl hg) _, ?_⟩
  · exact h7.is (fun b h => h) (fun b h => .inr h)
  · refine hQ.2 w3.heap.size _ _ (by omega) (hQ.1 _ w4 _ (by simp) (fun b hb h => Below.heap_setCell _ _ _ _ (fun e => ?_)) hq)
    have e' : b = g := e
    subst e'
    rcases h with h | h
    · have := (hM b h).2; omega
    · omega
/-- The size of a part, whatever it is. -/
def SizeOf (n : Nat) (f : FuncId) (x : Value) : Prop := ∀ W, Calls Tryd.prog f #[x] W fun e w' => e = .returned (.int .i64 (n : Int)) ∧ Below W.heap.size W w'
theorem size_any {w : World} {S : Nat → Prop} {p : Pt} {u : Value} (hu : IsP w S p u) : ∃ t x f, u = .iface t x ∧ (∀ W, (method 287 t x "spinney/finger.size").run Tryd.prog W = .ok (f, x) W) ∧ (∀ args W, (callFunc f args).run Tryd.prog W = .ok (.enter f args) W) ∧ SizeOf p.items.length f x := by
  cases p with
  | item z =>
    obtain ⟨A1, c1, rfl, _⟩ := hu.item_eq
    exact ⟨_, _, _, rfl, fun W => methItem _ _ _ _ _, fun args W => enters_of Tryd.func150 (by kernel_rfl) rfl args W, fun W => by rw [pitem_items]; exact itemsize_calls _ _ _ _ _⟩
  | node kk =>
    obtain ⟨A1, c1, rfl, _⟩ := hu.node_eq
    exact ⟨_, _, _, rfl, fun W => methNode _ _ _, fun args W => enters_of Tryd.func151 (by kernel_rfl) rfl args W, fun W => by rw [pnode_items]; exact nodesize_calls _ _ _⟩
set_option maxRecDepth 100000 in
set_option maxHeartbeats 8000000 in
theorem changed_calls (k : Nat) (hP : ChangeP k) (ks : List Pt) (i : Nat) (y : V) (vl : Value) (g : FuncId) (lb : List Value) (M : Nat → Prop) (w : World) (S : Nat → Prop) (Q : Nat → World → Prop) (hlev : ∀ p, p ∈ ks → Pt.Lev k p) (hl : IsPs w S ks vl) (hi : i < (Pt.flat ks).length) (hk : ks.length ≤ 65536)
    (hm : (Pt.flat ks).length ≤ 4294967296) (hdo : DoIs g lb (itemAt (Pt.flat ks) i) y M w S Q) (hQ : Lasts M Q) (hM : ∀ b, M b → ¬ S b ∧ b < w.heap.size) (eg : ∀ args w, (callFunc g args).run Tryd.prog w = .ok (.enter g args) w) :
    Calls Tryd.prog 104 #[vl, .int .i64 i, .func (.func g) #[] lb.toArray] w fun e w' => ∃ v, e = .returned v ∧ IsPs w' (Old w S) (Pt.changed ks i y) v ∧ But M w w' ∧ Q w.heap.size w' := by
  have h0 : 0 < ks.length := by
    rcases Nat.eq_zero_or_pos ks.length with h | h
    · rw [List.eq_nil_of_length_eq_zero h] at hi; simp [Pt.flat] at hi
    · exact h
  have HCL := Lib.hid (clone_calls ks vl w S hl h0 hk)
  obtain ⟨ad, cap, rfl, hc, hp⟩ := hl.addr h0
  have HP := Lib.hid hp
  have HI := Lib.hid hi
  have HD := Lib.hid hdo
  have HM := Lib.hid hM
  have HMM := Lib.hid hm
  have HL := Lib.hid hlev
  have HPP := Lib.hid hP
  have HQ := Lib.hid hQ
  have HEG := Lib.hid eg
  clear hl hp hi hdo hM hm hlev hP hQ eg
  go_enter Tryd.func104, Tryd.ntmps104
  go_wp2_with (go_at_call 113; refine HCL.out.mono ?_; rintro e w2 ⟨v2, rfl, hv2, hb2⟩; have HV2 := Lib.hid hv2; obtain ⟨A2, c2, rfl, _⟩ := hv2.form; clear hv2 HCL)
  go_loopw [1, 14] (fun v1 v14 wr => ∃ kk j : Nat, v14 = .int .i64 kk ∧ v1 = .int .i64 j ∧ kk ≤ ks.length ∧ Hid (aheadP ks kk + j = i) ∧ Below w2.heap.size w2 wr) (fun _ v _ => ks.length - (intOf v).toNat)
  case atStart => exact ⟨0, i, rfl, rfl, by omega, Lib.hid (by rw [aheadP_zero]; omega), Below.refl _ _⟩
  case round =>
    obtain ⟨kk, j, rfl, rfl, hkk, hj, hf⟩ := hrel
    have hlt : kk < ks.length := by
      rcases Nat.lt_or_ge kk ks.length with h | h
      · exact h
      · have h1 : kk = ks.length := by omega
        have h2 := hj.out
        have h3 := HI.out
        rw [h1, aheadP_all] at h2
        omega
    have hbw := below_then hb2 hb2.size hf
    obtain ⟨hsA, u, hu, hcu⟩ := (HP.out.keep (w' := wr) (S' := fun b => S b ∧ b < w.heap.size) (Keeps.below_to hbw fun b h1 h2 => ⟨h2, h1⟩)).at kk hlt
    rw [Nat.zero_add] at hcu
    have hAl := World.block_lt_of_cell? wr _ hcu
    have hup := aheadP_succ hlt
    have hle := aheadP_le ks (kk + 1)
    have hmm := HMM.out
    have hjj := hj.out
    have HU := Lib.hid hu
    obtain ⟨t, x, f, rfl, hmeth, egf, hsz⟩ := size_any hu
    have HSZ := Lib.hid hsz
    obtain ⟨n, hn⟩ : ∃ n, (ptAt ks kk).items.length = n := ⟨_, rfl⟩
    rw [hn] at HSZ hup
    have HN := Lib.hid hn
    clear hsz hn hu
    by_cases hit : j < n
    · have e1 : (j : Int) < (n : Int) := by omega
      clear hup hle hmm hjj
      go_wp2_with fail
      refine (HSZ.out _).mono ?_
      rintro e w3 ⟨rfl, hb3⟩
      have hf3 := below_then hf hf.size hb3
      have hbw3 := below_then hb2 hb2.size hf3
      have HCH := Lib.hid (HPP.out (ptAt ks kk) j y (.iface t x) g lb M w3 (fun b => S b ∧ b < w.heap.size) Q (HL.out _ (ptAt_mem hlt)) (HU.out.below hb3) (by rw [HN.out]; exact hit) (by have := aheadP_succ hlt; have := aheadP_le ks (kk + 1); have := HMM.out; omega)
        (by have := itemAt_flat (i := i) hlt (by have := hj.out; omega) (by rw [HN.out]; have := hj.out; omega); rw [show i - aheadP ks kk = j by have := hj.out; omega] at this; rw [← this]; exact HD.out.later hbw3 fun b h1 h2 => ⟨h1, h2⟩) HQ.out (fun b hb => ⟨fun h => (HM.out b hb).1 h.1, Nat.lt_of_lt_of_le (HM.out b hb).2 hbw3.size⟩) HEG.out)
      clear hmeth egf hit
      go_wp2_with (go_at_call 114; refine HCH.out.mono ?_; rintro e w4 ⟨u4, rfl, hu4, hb4, hq4⟩; have HW4 := Lib.hid (And.intro hu4 (And.intro hb4 hq4)); obtain ⟨t4, x4, rfl⟩ := hu4.form; obtain ⟨g4, c4, e4, hg4, hs4, hz4, hr4, hb5, hq5⟩ := out_store (kk := kk) HQ.out hb2 HV2.out hf3 hb4 HM.out hu4 hq4 (by omega); obtain ⟨z4, hz4'⟩ := Option.isSome_iff_exists.1 hs4; injection e4 with e5 e6 e7; subst e5; subst e7; have HR := Lib.hid (And.intro hr4 (And.intro hb5 hq5)); clear hu4 hb4 hq4 hr4 hb5 hq5 hs4 e6)
      go_ret
      refine ⟨_, rfl, ?_, HR.out.2.1, HR.out.2.2⟩
      rw [changed_at hlt (by have := hj.out; omega) (by rw [HN.out]; have := hj.out; omega), show i - aheadP ks kk = j by have := hj.out; omega]
      exact HR.out.1
    · have e1 : ¬ ((j : Int) < (n : Int)) := by omega
      have e2 : (0 : Int) ≤ (j : Int) - (n : Int) := by omega
      have e3 : (j : Int) - (n : Int) ≤ 4294967296 := by have := HI.out; omega
      have HJ : Hid (aheadP ks (kk + 1) + (j - n) = i) := Lib.hid (by omega)
      clear hup hle hmm hjj hit
      go_wp2_with fail
      refine (HSZ.out _).mono ?_
      rintro e w3 ⟨rfl, hb3⟩
      have hf3 := below_then hf hf.size hb3
      go_wp2_with fail
      refine (HSZ.out _).mono ?_
      rintro e w4 ⟨rfl, hb4⟩
      have hf4 := below_then hf3 hf3.size hb4
      go_wp2_with fail
      go_roundw
      case rel => exact ⟨kk + 1, j - n, by go_num, by congr 1; omega, by omega, HJ, hf4⟩
      case measure => simp [intOf]; omega
end Go.Proofs.YtjjbhnkplbjfeaaDoor
