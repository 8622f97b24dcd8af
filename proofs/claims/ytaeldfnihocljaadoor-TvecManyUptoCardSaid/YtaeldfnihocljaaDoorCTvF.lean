/- Transients: an item more. -/
import Derived.Test.YtaeldfnihocljaaDoorCTvE
import Derived.Test.YtaeldfnihocljaaDoorCSlot

set_option linter.unusedVariables false
set_option linter.unusedSimpArgs false
namespace Go.Proofs.YtaeldfnihocljaaDoor
open Go.RowKit
attribute [local go_sem] lt_succ_of

theorem But.after {M M' : Nat → Prop} {w w1 w2 : World} (h : But M w w1) (k : But M' w1 w2) (hm : ∀ b, b < w.heap.size → M' b → M b) : But M w w2 :=
  ⟨k.os.trans h.os, k.tape.trans h.tape, k.output.trans h.output, Nat.le_trans h.size k.size, fun b hb hn => (k.block b (Nat.lt_of_lt_of_le hb h.size) fun e => hn (hm b hb e)).trans (h.block b hb hn)⟩
theorem set_same {w w' : World} {g : Nat} (h : w.heap[g]? = w'.heap[g]?) (n : Nat) (u : Value) : (w.setCell ⟨g, n, none⟩ u).heap[g]? = (w'.setCell ⟨g, n, none⟩ u).heap[g]? := by
  simp only [World.setCell, Array.getElem?_modify, h]
theorem IsTr.wait_is {w w' : World} {R : Nat → Prop} {k : Nat} {x : Tr} (hx : IsTr w R k x) (hR : ∀ b, R b → b < w.heap.size) (hB : But x.own w w') {k' : Nat} {wt' : List V} {v' : Value}
    (blk : w'.heap[x.t]? = some (.cells #[.bool x.op, .pointer (some ⟨x.b, 0, none⟩), v'] 105 (0, 0))) (hw : OwnL w' 0 (fun b => ¬ x.own b ∧ ¬ R b) wt' v') (hl : wt'.length ≤ k') (hs : (x.m ++ wt').length ≤ 65536) (hr : ∀ y, y ∈ wt' → rightB y = true)
    (ho : ∀ b, v'.ownBlock = some b → x.vw.ownBlock = some b ∨ w.heap.size ≤ b) : IsTr w' R k' { x with wt := wt', vw := v' } ∧ ∀ b, Tr.own { x with wt := wt', vw := v' } b → x.own b ∨ w.heap.size ≤ b := by
  have hown : ∀ b, Tr.own { x with wt := wt', vw := v' } b → x.own b ∨ w.heap.size ≤ b := fun b hb => by
    rcases hb with hb | hb
    · exact .inl (.inl hb)
    · exact (ho b hb).imp .inr id
  refine ⟨⟨blk, ?_, ?_, hl, hs, hr, ?_, ?_, ?_⟩, hown⟩
  · refine hx.vec.keep fun b hb h1 => ⟨⟨fun h2 => ?_, h1.2⟩, hB.block b hb h1.1⟩
    rcases hown b h2 with h3 | h3
    · exact h1.1 h3
    · omega
  · refine hw.strict.keep (Keeps.weak fun b h1 => ⟨fun h2 => ?_, h1.1.2⟩) fun _ _ => rfl
    rcases h2 with h2 | h2
    · exact h1.1.1 (.inl h2)
    · exact h1.2 h2.symm
  · intro h1
    rcases ho _ h1 with h2 | h2
    · exact hx.apart h2
    · exact absurd (show x.t < w.heap.size from hx.own_lt (.inl rfl)) (Nat.not_lt.2 h2)
  · intro b h1 h2
    rcases hown b h1 with h3 | h3
    · exact hx.free b h3 h2
    · have := hR b h2; omega
  · intro b h1
    rcases hown b h1 with h3 | h3
    · exact hx.high b h3
    · have := hx.high x.t (.inl rfl); have := hx.own_lt (.inl rfl); omega
/-- What waits has grown by one: the place is filled and the transient told. -/
theorem slot_end {w Wa w1 W' : World} {R : Nat → Prop} {x : Tr} {y : V} {g cap1 : Nat} {c0 c1 c2 c3 : Value} (hx : IsTr w R 31 x) (hR : ∀ b, R b → b < w.heap.size) (hB : Below w.heap.size w Wa) {v : Value} (hv : x.vw = v) (hs : Slot Wa w1 (fun b => ¬ x.own b ∧ ¬ R b) x.wt v g cap1)
    (hy : VC Wa (fun b => w.heap.size ≤ b) y [c0, c1, c2, c3]) (hr : rightB y = true) (hl : x.all.length < 65536)
    (hW : W' = ((((w1.setCell ⟨g, x.wt.length * 4, none⟩ c0).setCell ⟨g, x.wt.length * 4 + 1, none⟩ c1).setCell ⟨g, x.wt.length * 4 + 2, none⟩ c2).setCell ⟨g, x.wt.length * 4 + 3, none⟩ c3).setCell ⟨x.t, 2, none⟩ (.slice (some ⟨g, 0, none⟩) (x.wt.length + 1) cap1) ∨
      W' = ((((w1.setCell ⟨x.t, 2, none⟩ (.slice (some ⟨g, 0, none⟩) (x.wt.length + 1) cap1)).setCell ⟨g, x.wt.length * 4, none⟩ c0).setCell ⟨g, x.wt.length * 4 + 1, none⟩ c1).setCell ⟨g, x.wt.length * 4 + 2, none⟩ c2).setCell ⟨g, x.wt.length * 4 + 3, none⟩ c3) :
    But x.own w W' ∧ IsTr W' R (x.wt.length + 1) { x with wt := x.wt ++ [y], vw := .slice (some ⟨g, 0, none⟩) (x.wt.length + 1) cap1 } ∧ ∀ b, Tr.own { x with wt := x.wt ++ [y], vw := .slice (some ⟨g, 0, none⟩) (x.wt.length + 1) cap1 } b → x.own b ∨ w.heap.size ≤ b := by
  subst hv
  have ht : x.t < w.heap.size := hx.own_lt (.inl rfl)
  have hsz := hB.size
  have hg : x.own g ∨ g = Wa.heap.size := hs.at'.imp .inr id
  have hne : x.t ≠ g := by
    rcases hs.at' with h | h
    · intro e; exact hx.apart (by rw [h, e])
    · omega
  have hb1 : But x.own w w1 := (But.of hB).trans (But.grown hs.grown fun b e => .inr e)
  have hgo : w.heap.size ≤ g ∨ x.own g := hg.elim .inr (fun h => .inl (by omega))
  have hto : x.own x.t := .inl rfl
  have hbut : But x.own w W' := by
    rcases hW with rfl | rfl
    · exact ((((hb1.set hgo _).set hgo _).set hgo _).set hgo _).set (.inr hto) _
    · exact ((((hb1.set (.inr hto) _).set hgo _).set hgo _).set hgo _).set hgo _
  have hg4 : W'.heap[g]? = ((((w1.setCell ⟨g, x.wt.length * 4, none⟩ c0).setCell ⟨g, x.wt.length * 4 + 1, none⟩ c1).setCell ⟨g, x.wt.length * 4 + 2, none⟩ c2).setCell ⟨g, x.wt.length * 4 + 3, none⟩ c3).heap[g]? := by
    rcases hW with rfl | rfl
    · exact Below.heap_setCell _ _ _ _ (Ne.symm hne)
    · have h0 : (w1.setCell ⟨x.t, 2, none⟩ (.slice (some ⟨g, 0, none⟩) (x.wt.length + 1) cap1)).heap[g]? = w1.heap[g]? := Below.heap_setCell _ _ _ _ (Ne.symm hne)
      exact set_same (set_same (set_same (set_same h0 _ _) _ _) _ _) _ _
  have hoth : ∀ b, b ≠ g → b ≠ x.t → W'.heap[b]? = w1.heap[b]? := fun b h1 h2 => by
    rcases hW with rfl | rfl
    · rw [Below.heap_setCell _ _ _ _ h2, Below.heap_setCell _ _ _ _ h1, Below.heap_setCell _ _ _ _ h1, Below.heap_setCell _ _ _ _ h1, Below.heap_setCell _ _ _ _ h1]
    · rw [Below.heap_setCell _ _ _ _ h1, Below.heap_setCell _ _ _ _ h1, Below.heap_setCell _ _ _ _ h1, Below.heap_setCell _ _ _ _ h1, Below.heap_setCell _ _ _ _ h2]
  have hblk1 : w1.heap[x.t]? = some (.cells #[.bool x.op, .pointer (some ⟨x.b, 0, none⟩), x.vw] 105 (0, 0)) := by
    rw [hs.grown.block x.t (by omega) (fun e => hx.apart e.symm), hB.block x.t ht, hx.blk]
  have hblk : W'.heap[x.t]? = some (.cells #[.bool x.op, .pointer (some ⟨x.b, 0, none⟩), .slice (some ⟨g, 0, none⟩) (x.wt.length + 1) cap1] 105 (0, 0)) := by
    rcases hW with rfl | rfl
    · have h2 := blockother (blockother (blockother (blockother hblk1 (p := ⟨g, x.wt.length * 4, none⟩) hne c0) (p := ⟨g, x.wt.length * 4 + 1, none⟩) hne c1) (p := ⟨g, x.wt.length * 4 + 2, none⟩) hne c2) (p := ⟨g, x.wt.length * 4 + 3, none⟩) hne c3
      simpa using blockset h2 2 (.slice (some ⟨g, 0, none⟩) (x.wt.length + 1) cap1)
    · have h2 : (w1.setCell ⟨x.t, 2, none⟩ (.slice (some ⟨g, 0, none⟩) (x.wt.length + 1) cap1)).heap[x.t]? = some (.cells #[.bool x.op, .pointer (some ⟨x.b, 0, none⟩), .slice (some ⟨g, 0, none⟩) (x.wt.length + 1) cap1] 105 (0, 0)) := by
        simpa using blockset hblk1 2 (.slice (some ⟨g, 0, none⟩) (x.wt.length + 1) cap1)
      exact blockother (blockother (blockother (blockother h2 (p := ⟨g, x.wt.length * 4, none⟩) hne c0) (p := ⟨g, x.wt.length * 4 + 1, none⟩) hne c1) (p := ⟨g, x.wt.length * 4 + 2, none⟩) hne c2) (p := ⟨g, x.wt.length * 4 + 3, none⟩) hne c3
  have hown := hs.fill W' y c0 c1 c2 c3 hg4 (fun b hb h1 h2 => by
    have e1 : b ≠ x.t := fun e => h1.1 (.inl e)
    have e2 : b ≠ g := fun e => by
      rcases hs.at' with h | h
      · exact h2 (by rw [h, e])
      · omega
    rw [hoth b e2 e1, hs.grown.block b hb h2]) (hy.keep fun b hb h1 => by
    have e0 : ¬ x.own b := fun h => by have := hx.own_lt h; omega
    have e1 : b ≠ x.t := fun e => e0 (.inl e)
    have e2 : b ≠ g := fun e => by
      rcases hg with h | h
      · exact e0 (e ▸ h)
      · omega
    refine ⟨⟨⟨e0, fun h => by have := hR b h; omega⟩, fun e => e2 (Option.some.inj e)⟩, ?_⟩
    rw [hoth b e2 e1, hs.grown.block b hb (fun e => e0 (.inr e.symm))])
  have hall : x.all.length = x.m.length + x.wt.length := List.length_append
  refine ⟨hbut, hx.wait_is hR hbut hblk hown (by simp) (by simp; omega) (fun z hz => ?_) (fun b hb => ?_)⟩
  · rcases List.mem_append.1 hz with h | h
    · exact hx.right z h
    · simp at h; rw [h]; exact hr
  · have e : g = b := by simpa [Value.ownBlock] using hb
    subst e
    rcases hs.at' with h | h
    · exact .inl h
    · exact .inr (by omega)
theorem slot_blk {w Wa w1 : World} {R : Nat → Prop} {k : Nat} {x : Tr} {S : Nat → Prop} {g cap1 : Nat} {v : Value} (hx : IsTr w R k x) (hB : Below w.heap.size w Wa) (hv : x.vw = v) (hs : Slot Wa w1 S x.wt v g cap1) :
    w1.cell? ⟨x.t, 2, none⟩ = some v ∧ (∀ n, w1.frozen? ⟨x.t, n, none⟩ = false) ∧ x.t ≠ g ∧ x.t < w1.heap.size := by
  subst hv
  have ht : x.t < w.heap.size := hx.own_lt (.inl rfl)
  have hsz := hB.size
  have hblk1 : w1.heap[x.t]? = some (.cells #[.bool x.op, .pointer (some ⟨x.b, 0, none⟩), x.vw] 105 (0, 0)) := by
    rw [hs.grown.block x.t (by omega) (fun e => hx.apart e.symm), hB.block x.t ht, hx.blk]
  refine ⟨by simp [World.cell?, hblk1], free4 hblk1, ?_, (Array.getElem?_eq_some_iff.1 hblk1).1⟩
  rcases hs.at' with h | h
  · intro e; exact hx.apart (by rw [h, e])
  · omega
theorem own_for {w1 : World} {n : Nat} {S : Nat → Prop} {y : V} {vy : Value} (hs : n ≤ w1.heap.size) (hy : IsV w1 S y vy) (w2 : World) (hb2 : Below w1.heap.size w1 w2) :
    Calls Tryd.prog 62 #[vy] w2 fun e w' => ∃ A c, e = .returned (.agg #[.int .i64 y.kind, .int .i64 y.num, .string y.text, .slice A y.items.length c]) ∧ VC w' (fun b => n ≤ b) y [.int .i64 y.kind, .int .i64 y.num, .string y.text, .slice A y.items.length c] ∧ Below w1.heap.size w1 w' ∧ ∀ (b : Nat) (o : Obj), w2.heap[b]? = some o → w'.heap[b]? = some o := by
  refine (ownt_calls _ _ w2 _ (hy.below hb2)).mono ?_
  rintro e w' ⟨v, he, hv, hb⟩
  obtain ⟨h1, A, c, rfl, h2, h3⟩ := hv.eq
  refine ⟨A, c, he, (VC.mk h1 h2 h3).keep (Keeps.weak fun b hb3 => ?_), below_then hb2 hb2.size hb, fun b o ho => (hb.block b (Array.getElem?_eq_some_iff.1 ho).1).trans ho⟩
  have := hb2.size
  omega
set_option maxRecDepth 100000 in
set_option maxHeartbeats 8000000 in
theorem tpush_calls (w : World) (R : Nat → Prop) (x : Tr) (y : V) (vy : Value) (hx : IsTr w R 31 x) (ho : x.op = true) (hR : ∀ b, R b → b < w.heap.size) (hy : IsV w (fun b => ¬ x.own b ∧ ¬ R b) y vy) (hT : Lib.Utf8Tabs 0 1 w) :
    Calls Tryd.prog 37 #[.pointer (some ⟨x.t, 0, none⟩), vy] w fun e w' => e = .returned (.int .i64 (pushE x.all y)) ∧ After w R 31 x (if pushE x.all y = 0 then x.all ++ [y] else x.all) w' := by
  obtain ⟨hby, Ay, cy, rfl, hcy, hAy⟩ := hy.eq
  obtain ⟨w1, hw1, hB1, hsz, hb0⟩ := box0 w 31 (.int .i64 y.kind) (.int .i64 y.num) (.string y.text) (.slice Ay y.items.length cy)
  obtain ⟨e0, e1, e2, e3⟩ := block4 hb0
  have hx1 := hx.below hB1
  obtain ⟨c0, c1, c2, hl, hfr⟩ := hx1.cells
  obtain ⟨A, cap, hv, hcap⟩ := hx1.form
  rw [ho] at c0
  rw [hv] at c2
  have hsm := hx1.small
  have HX0 := Lib.hid hx
  have HR := Lib.hid hR
  have HX := Lib.hid hx1
  have HV := Lib.hid hv
  have HB0 := Lib.hid hb0
  have hs1 := hB1.size
  have hS := sealed_calls w1 R 31 x hx1
  rw [ho] at hS
  have HS := Lib.hid hS
  have hY1 : IsV w1 (fun b => ¬ x.own b ∧ ¬ R b) y _ := hy.below hB1
  have HY := Lib.hid hY1
  have HCK := Lib.hid (check_calls y _ w1 _ hY1 (tabs_below hT hB1))
  have HZ := Lib.hid (fun w2 (hb2 : Below w1.heap.size w1 w2) => size_calls w2 R 31 x (hx1.below hb2))
  have HO := Lib.hid (own_for (n := w.heap.size) hs1 hY1)
  have HWT := Lib.hid (fun w2 (hb2 : Below w1.heap.size w1 w2) => show OwnL w2 0 (fun b => ¬ x.own b ∧ ¬ R b) x.wt (.slice A x.wt.length cap) from hv ▸ (hx1.below hb2).wait)
  have HT0 := Lib.hid hT
  clear hx hx1 ho hv hb0 hS hY1 hAy hT hy hR
  by_cases hc : rightB y = true
  · rw [if_pos hc] at HCK
    by_cases hlong : 65536 ≤ x.all.length
    · rw [pushE_long hc hlong, if_neg (by decide)]
      have h2 : x.all.length = 65536 := by omega
      rw [h2] at HZ
      clear hc hlong hsm h2
      go_enter Tryd.func37, Tryd.ntmps37
      go_wp2_with (first | (go_at_call 59; refine HS.out.mono ?_; rintro e w2 ⟨rfl, rfl⟩) | (go_at_call 51; refine HCK.out.mono ?_; rintro e w2 ⟨rfl, hb2⟩) | (go_at_call 61; refine (HZ.out _ hb2).mono ?_; rintro e w3 ⟨rfl, hb3⟩; have hb4 := below_then hb2 hb2.size hb3))
      go_ret
      exact ⟨rfl, After.same HX0.out (below_then hB1 hB1.size hb4)⟩
    · have hE : pushE x.all y = 0 := pushE_ok hc (by omega)
      rw [hE, if_pos rfl]
      have HLN := Lib.hid (show x.all.length < 65536 by omega)
      have HRY := Lib.hid hc
      obtain ⟨n, hnn⟩ : ∃ n, x.all.length = n := ⟨_, rfl⟩
      rw [hnn] at HZ
      have h2 : ((n : Int) == 65536) = false := by simp; omega
      clear hc hlong hsm hE hnn
      go_enter Tryd.func37, Tryd.ntmps37
      go_wp2_with (first | (go_at_call 59; refine HS.out.mono ?_; rintro e w2 ⟨rfl, rfl⟩) | (go_at_call 51; refine HCK.out.mono ?_; rintro e w2 ⟨rfl, hb2⟩) | (go_at_call 61; refine (HZ.out _ hb2).mono ?_; rintro e w3 ⟨rfl, hb3⟩; have hb4 := below_then hb2 hb2.size hb3; have d2 := cellB hb4 c2; obtain ⟨q0, q1, q2, q3⟩ := block4 (blockB hb4 HB0.out)))
      have hlw : x.wt.length ≤ 31 := HX0.out.len
      have HLW := Lib.hid hlw
      clear hlw
      have hx0 : (x.wt.length : Int) < ((x.wt.length + 1 : Nat) : Int) := by omega
      have hx1 : (x.wt.length : Int) < (x.wt.length : Int) + 1 := by omega
      have hl3 : x.t < w3.heap.size := World.block_lt_of_cell? w3 _ d2
      have hl4 : w.heap.size < w3.heap.size := World.block_lt_of_cell? w3 _ q0
      go_region_law (first
        | (go_simp; go_at_call 62; refine (HO.out _ ?hside).mono ?_; (case hside => first | exact hb4.drew | exact (hb4.alloc hb4.size _).drew | exact hb4.drew.alloc hb4.drew.size _); rintro e w7 ⟨Av, cv, rfl, hv7, hb8, hkeep⟩; have d7 := cellB hb8 c2; obtain ⟨r0, r1, r2, r3⟩ := block4 (blockB hb8 HB0.out); have hl7 := World.block_lt_of_cell? w7 _ d7; have hl8 := World.block_lt_of_cell? w7 _ r0; have HV7 := Lib.hid hv7; (try have hz := hkeep _ _ (heap_alloc_new w3 _)); (try have hz := hkeep _ _ (heap_alloc_new w3.drew _)); clear hv7 hkeep)
        | (refine append_slot (fun b => ¬ x.own b ∧ ¬ R b) rfl (.tmp 19) (.tmp 23) rfl (.slice A x.wt.length cap) x.wt _ (by simp [Act.eval, Act.put]) (by simp [Act.eval, Act.put]; rfl) (HWT.out _ ?hb) ?hm (by have := HLW.out; omega) (fun w' => Below w.heap.size w w' ∧ VC w' (fun b => w.heap.size ≤ b) y [.int .i64 y.kind, .int .i64 y.num, .string y.text, .slice Av y.items.length cv]) ?hY ?_; (case hY => first | exact ⟨below_then hB1 hB1.size hb8, HV7.out⟩ | exact ⟨(below_then hB1 hB1.size hb8).alloc (below_then hB1 hB1.size hb8).size _, HV7.out.keep (Keeps.alloc _)⟩); (case hb => first | exact hb8 | exact hb8.alloc hb8.size _); (case hm => first | exact hz | exact heap_alloc_new _ _); rintro g cap1 w9 ⟨hBW, hvw⟩ hsl; obtain ⟨t2, tf, tne, tlt⟩ := slot_blk HX0.out hBW HV.out hsl; have tne' := Ne.symm tne; have z0 := hsl.z0; have z1 := hsl.z1; have z2 := hsl.z2; have z3 := hsl.z3; have zf := hsl.fz; have hpl := plus0 g; have zl := hsl.glt; have HSL := Lib.hid hsl; have HVW := Lib.hid hvw; clear hsl hvw))
      all_goals
        first
          | (obtain ⟨W', hW'⟩ : ∃ W', W' = ((((w9.setCell ⟨g, x.wt.length * 4, none⟩ (.int .i64 y.kind)).setCell ⟨g, x.wt.length * 4 + 1, none⟩ (.int .i64 y.num)).setCell ⟨g, x.wt.length * 4 + 2, none⟩ (.string y.text)).setCell ⟨g, x.wt.length * 4 + 3, none⟩ (.slice Av y.items.length cv)).setCell ⟨x.t, 2, none⟩ (.slice (some ⟨g, 0, none⟩) (x.wt.length + 1) cap1) := ⟨_, rfl⟩; rw [← hW']; have hW2 := Or.inl (b := W' = ((((w9.setCell ⟨x.t, 2, none⟩ (.slice (some ⟨g, 0, none⟩) (x.wt.length + 1) cap1)).setCell ⟨g, x.wt.length * 4, none⟩ (.int .i64 y.kind)).setCell ⟨g, x.wt.length * 4 + 1, none⟩ (.int .i64 y.num)).setCell ⟨g, x.wt.length * 4 + 2, none⟩ (.string y.text)).setCell ⟨g, x.wt.length * 4 + 3, none⟩ (.slice Av y.items.length cv)) hW')
          | (obtain ⟨W', hW'⟩ : ∃ W', W' = ((((w9.setCell ⟨x.t, 2, none⟩ (.slice (some ⟨g, 0, none⟩) (x.wt.length + 1) cap1)).setCell ⟨g, x.wt.length * 4, none⟩ (.int .i64 y.kind)).setCell ⟨g, x.wt.length * 4 + 1, none⟩ (.int .i64 y.num)).setCell ⟨g, x.wt.length * 4 + 2, none⟩ (.string y.text)).setCell ⟨g, x.wt.length * 4 + 3, none⟩ (.slice Av y.items.length cv) := ⟨_, rfl⟩; rw [← hW']; have hW2 := Or.inr (a := W' = ((((w9.setCell ⟨g, x.wt.length * 4, none⟩ (.int .i64 y.kind)).setCell ⟨g, x.wt.length * 4 + 1, none⟩ (.int .i64 y.num)).setCell ⟨g, x.wt.length * 4 + 2, none⟩ (.string y.text)).setCell ⟨g, x.wt.length * 4 + 3, none⟩ (.slice Av y.items.length cv)).setCell ⟨x.t, 2, none⟩ (.slice (some ⟨g, 0, none⟩) (x.wt.length + 1) cap1)) hW')
        obtain ⟨hb9, ht9, ho9⟩ := slot_end HX0.out HR.out hBW HV.out HSL.out HVW.out HRY.out HLN.out hW2
        have p0 : W'.cell? ⟨x.t, 2, none⟩ = some (.slice (some ⟨g, 0, none⟩) (x.wt.length + 1) cap1) := ht9.cells.2.2.1
        have p1 : ∀ n, W'.frozen? ⟨x.t, n, none⟩ = false := ht9.cells.2.2.2.2
        have hall : x.m ++ (x.wt ++ [y]) = x.all ++ [y] := by unfold Tr.all; rw [List.append_assoc]
        have HB9 := Lib.hid hb9
        have HT9 := Lib.hid ht9
        have HO9 := Lib.hid ho9
        have HALL := Lib.hid hall
        have HFL := Lib.hid (fun hk => flush_calls W' R _ (ht9.mono hk) (tabs_but HT0.out hb9 HX0.out.high) (fun b hb => Nat.lt_of_lt_of_le (HR.out b hb) hb9.size))
        clear hb9 ht9 ho9 hW2 hW' hall HSL HVW t2 tf tlt z0 z1 z2 z3 zf zl hpl d7 r0 r1 r2 r3 hl7 hl8 hx0 hx1 hl3 hl4
        rcases Nat.lt_or_ge x.wt.length 31 with hlt | hge
        · have h9 : ((x.wt.length : Int) + 1 == 32) = false := by simp; omega
          have HLT := Lib.hid hlt
          clear hlt
          go_wp2_with fail
          go_ret
          exact ⟨rfl, HB9.out, _, HT9.out.mono HLT.out, rfl, rfl, HALL.out, HO9.out⟩
        · have hl31 : x.wt.length = 31 := by have := HLW.out; omega
          have h9 : ((x.wt.length : Int) + 1 == 32) = true := by rw [hl31]; rfl
          have HF2 := Lib.hid (HFL.out (by omega))
          have HGE := Lib.hid hge
          clear hge hl31
          go_wp2_with (go_at_call 60; refine HF2.out.mono ?_; rintro e w10 ⟨rfl, hb10, x', hx', ht', ho', hm', hw', hown'⟩; have HX' := Lib.hid (And.intro hx' (And.intro ht' (And.intro ho' (And.intro hm' (And.intro hw' hown'))))); have HB10 := Lib.hid hb10; clear hx' ht' ho' hm' hw' hown' hb10)
          go_ret
          obtain ⟨hx', ht', ho', hm', hw', hown'⟩ := HX'.out
          refine ⟨rfl, HB9.out.after HB10.out (fun b hb h => (HO9.out b h).resolve_right (by omega)), x', hx'.mono (by omega), ht', ho', ?_, fun b hb => HO9.out b (hown' b hb)⟩
          unfold Tr.all
          rw [hm', hw', List.append_nil]
          exact HALL.out
  · rw [if_neg hc] at HCK
    rw [pushE_bad hc, if_neg (by decide)]
    clear hc
    go_enter Tryd.func37, Tryd.ntmps37
    go_wp2_with (first | (go_at_call 59; refine HS.out.mono ?_; rintro e w2 ⟨rfl, rfl⟩) | (go_at_call 51; refine HCK.out.mono ?_; rintro e w2 ⟨rfl, hb2⟩))
    go_ret
    exact ⟨rfl, After.same HX0.out (below_then hB1 hB1.size hb2)⟩
end Go.Proofs.YtaeldfnihocljaaDoor
