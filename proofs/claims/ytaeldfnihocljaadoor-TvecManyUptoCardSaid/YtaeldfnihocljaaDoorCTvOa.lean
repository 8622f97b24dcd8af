/- Two transients at once. -/
import Derived.Test.YtaeldfnihocljaaDoorCTvL

set_option linter.unusedVariables false
set_option linter.unusedSimpArgs false
namespace Go.Proofs.YtaeldfnihocljaaDoor
open Go.RowKit
attribute [local go_sem] lt_succ_of

/-- What is kept where blocks are kept. -/
def Kept (X : (Nat → Prop) → World → Prop) : Prop := ∀ w w' S S', Keeps w S w' S' → X S w → X S' w'
/-- Two open transients, each apart from the other; a plain list beside each; and what both leave as it is. -/
structure Two (X : (Nat → Prop) → World → Prop) (n0 : Nat) (w : World) (ta tb : Nat) (xa xb : Tr) (vm vn : Value) : Prop where
  a : IsTr w xb.own 31 xa
  b : IsTr w xa.own 31 xb
  ta : xa.t = ta
  tb : xb.t = tb
  oa : xa.op = true
  ob : xb.op = true
  ha : High n0 xa
  hb : High n0 xb
  m : IsS w (fun c => ¬ xa.own c ∧ ¬ xb.own c) xa.all vm
  n : IsS w (fun c => ¬ xa.own c ∧ ¬ xb.own c) xb.all vn
  k : X (fun c => ¬ xa.own c ∧ ¬ xb.own c) w
theorem Two.swap {X : (Nat → Prop) → World → Prop} (hX : Kept X) {n0 : Nat} {w : World} {ta tb : Nat} {xa xb : Tr} {vm vn : Value} (h : Two X n0 w ta tb xa xb vm vn) : Two X n0 w tb ta xb xa vn vm :=
  ⟨h.b, h.a, h.tb, h.ta, h.ob, h.oa, h.hb, h.ha, h.n.keep (Keeps.weak fun _ h => ⟨h.2, h.1⟩), h.m.keep (Keeps.weak fun _ h => ⟨h.2, h.1⟩), hX _ _ _ _ (Keeps.weak fun _ h => ⟨h.2, h.1⟩) h.k⟩
theorem keeps_two {w w' : World} {xa xb x' : Tr} (hb : But xa.own w w') (ho : ∀ c, x'.own c → xa.own c ∨ w.heap.size ≤ c) : Keeps w (fun c => ¬ xa.own c ∧ ¬ xb.own c) w' (fun c => ¬ x'.own c ∧ ¬ xb.own c) := fun c hc h =>
  ⟨⟨fun e => (ho c e).elim h.1 (fun e => by omega), h.2⟩, hb.block c hc h.1⟩
theorem Two.step {X : (Nat → Prop) → World → Prop} (hX : Kept X) {n0 : Nat} {w w' : World} {ta tb : Nat} {xa xb : Tr} {vm vn v : Value} (h : Two X n0 w ta tb xa xb vm vn) (hn : n0 ≤ w.heap.size) (hw : Went w xb.own xa v w') : ∃ x', Two X n0 w' ta tb x' xb v vn ∧ Below n0 w w' := by
  obtain ⟨hb, x', hx', ht', ho', hown', hm'⟩ := hw
  have hK := keeps_two (xb := xb) hb hown'
  refine ⟨x', ⟨hx', h.b.keep hb (fun c _ e => e) (fun c hc e => (hown' c e).elim id (fun e => by omega)), ht'.trans h.ta, h.tb, ho', h.ob, fun c e => (hown' c e).elim (h.ha c) (fun e => Nat.le_trans hn e), h.hb, hm', h.n.keep hK, hX _ _ _ _ hK h.k⟩, hb.below hn h.ha⟩
theorem Two.below {X : (Nat → Prop) → World → Prop} (hX : Kept X) {n0 : Nat} {w w' : World} {ta tb : Nat} {xa xb : Tr} {vm vn : Value} (h : Two X n0 w ta tb xa xb vm vn) (hb : Below w.heap.size w w') : Two X n0 w' ta tb xa xb vm vn :=
  ⟨h.a.below hb, h.b.below hb, h.ta, h.tb, h.oa, h.ob, h.ha, h.hb, h.m.below hb, h.n.below hb, hX _ _ _ _ (Keeps.below hb) h.k⟩
theorem begun_own {l : List V} {h b t c : Nat} (hc : Tr.own ⟨true, l, h, b, [], t, .slice none 0 0⟩ c) : c = t := by
  rcases hc with hc | hc
  · exact hc
  · simp [Value.ownBlock] at hc
/-- One of the two is sealed, and another begun upon what it told. -/
theorem Two.anew {X : (Nat → Prop) → World → Prop} (hX : Kept X) {n0 : Nat} {w w5 w6 : World} {ta tb : Nat} {xa xb x3 : Tr} {vm vn : Value} (h : Two X n0 w ta tb xa xb vm vn) (hn : n0 ≤ w.heap.size)
    (hb : But xa.own w w5) (hx3 : IsTr w5 xb.own 0 x3) (hm3 : x3.m = xa.all) (hown : ∀ c, x3.own c → xa.own c) (hx6 : IsTr w6 xb.own 0 ⟨true, xa.all, x3.h, x3.b, [], w5.heap.size, .slice none 0 0⟩) (hb6 : Below w5.heap.size w5 w6) :
    Two (fun S w => X S w ∧ IsR w S xa.all x3.h x3.b ∧ IsS w S xa.all vm) n0 w6 w5.heap.size tb ⟨true, xa.all, x3.h, x3.b, [], w5.heap.size, .slice none 0 0⟩ xb vm vn := by
  have h5 := hb.size
  have h6 := hb6.size
  have hK : Keeps w (fun c => ¬ xa.own c ∧ ¬ xb.own c) w6 (fun c => ¬ Tr.own ⟨true, xa.all, x3.h, x3.b, [], w5.heap.size, .slice none 0 0⟩ c ∧ ¬ xb.own c) := fun c hc hs =>
    ⟨⟨fun e => by have := begun_own e; omega, hs.2⟩, (hb6.block c (by omega)).trans (hb.block c hc hs.1)⟩
  have hK5 : Keeps w5 (fun c => ¬ x3.own c ∧ ¬ xb.own c) w6 (fun c => ¬ Tr.own ⟨true, xa.all, x3.h, x3.b, [], w5.heap.size, .slice none 0 0⟩ c ∧ ¬ xb.own c) := fun c hc hs =>
    ⟨⟨fun e => by have := begun_own e; omega, hs.2⟩, hb6.block c hc⟩
  have hv := hx3.vec
  rw [hm3] at hv
  refine ⟨hx6.mono (by decide), ?_, rfl, h.tb, rfl, h.ob, fun c e => ?_, h.hb, ?_, h.n.keep hK, hX _ _ _ _ hK h.k, hv.keep hK5, h.m.keep hK⟩
  · exact (h.b.keep hb (fun c _ e => e) (R' := xa.own) (fun c _ e => e)).keep (M := fun _ => False) (But.of hb6) (fun _ _ e => e.elim) (fun c hc e => by have := begun_own e; omega)
  · have := begun_own e; omega
  · have := h.m.keep hK
    simpa [Tr.all] using this
/-- Both are sealed, first the second one. -/
theorem Two.ended {X : (Nat → Prop) → World → Prop} (hX : Kept X) {n0 : Nat} {w w5 w6 : World} {ta tb : Nat} {xa xb x3 x4 : Tr} {vm vn : Value} (h : Two X n0 w ta tb xa xb vm vn) (hn : n0 ≤ w.heap.size)
    (hb : But xb.own w w5) (hx3 : IsTr w5 xa.own 0 x3) (hm3 : x3.m = xb.all) (hown : ∀ c, x3.own c → xb.own c) (hb6 : But xa.own w5 w6) (hx4 : IsTr w6 x3.own 0 x4) (hm4 : x4.m = xa.all) (hown4 : ∀ c, x4.own c → xa.own c) :
    ∃ S, IsR w6 S xb.all x3.h x3.b ∧ IsR w6 S xa.all x4.h x4.b ∧ IsS w6 S xa.all vm ∧ IsS w6 S xb.all vn ∧ X S w6 ∧ Below n0 w w6 := by
  have h5 := hb.size
  have hK : Keeps w (fun c => ¬ xa.own c ∧ ¬ xb.own c) w6 (fun _ => True) := fun c hc hs => ⟨trivial, (hb6.block c (by omega) hs.1).trans (hb.block c hc hs.2)⟩
  have hK5 : Keeps w5 (fun c => ¬ x3.own c ∧ ¬ xa.own c) w6 (fun _ => True) := fun c hc hs => ⟨trivial, hb6.block c hc hs.2⟩
  have hv3 := hx3.vec
  rw [hm3] at hv3
  have hv4 := hx4.vec
  rw [hm4] at hv4
  exact ⟨fun _ => True, hv3.keep hK5, hv4.keep (Keeps.weak fun _ _ => trivial), h.m.keep hK, h.n.keep hK, hX _ _ _ _ hK h.k, (hb.below hn h.hb).trans (hb6.below (by omega) h.ha)⟩
theorem kept_vec (l : List V) (h b : Nat) : Kept (fun S w => IsR w S l h b) := fun _ _ _ _ hK hr => hr.keep hK
theorem kept_more {X : (Nat → Prop) → World → Prop} (hX : Kept X) (l : List V) (h b : Nat) (v : Value) : Kept (fun S w => X S w ∧ IsR w S l h b ∧ IsS w S l v) := fun _ _ _ _ hK hr => ⟨hX _ _ _ _ hK hr.1, hr.2.1.keep hK, hr.2.2.keep hK⟩
/-- Two transients just begun upon one vector. -/
theorem Two.begun {l : List V} {h b n0 : Nat} {w w2 w3 w4 : World} {Al : Option Addr} {cl : Nat} {S : Nat → Prop} (hn : n0 ≤ w2.heap.size) (hl : IsS w S l (.slice Al l.length cl)) (hw : w.heap.size = n0) (hb2 : Below w.heap.size w w2) (hv : IsR w2 (fun c => n0 ≤ c) l h b)
    (hx : IsTr w3 (fun _ => False) 0 ⟨true, l, h, b, [], w2.heap.size, .slice none 0 0⟩) (hb3 : Below w2.heap.size w2 w3) (hy : IsTr w4 (fun c => c = w2.heap.size) 0 ⟨true, l, h, b, [], w3.heap.size, .slice none 0 0⟩) (hb4 : Below w3.heap.size w3 w4) :
    Two (fun S w => IsR w S l h b) n0 w4 w2.heap.size w3.heap.size ⟨true, l, h, b, [], w2.heap.size, .slice none 0 0⟩ ⟨true, l, h, b, [], w3.heap.size, .slice none 0 0⟩ (.slice Al l.length cl) (.slice Al l.length cl) := by
  have h2 := hb2.size
  have h3 := hb3.size
  have h4 := hb4.size
  have h23 : w2.heap.size < w3.heap.size := (Array.getElem?_eq_some_iff.1 hx.blk).1
  have hK : Keeps w S w4 (fun c => ¬ Tr.own ⟨true, l, h, b, [], w2.heap.size, .slice none 0 0⟩ c ∧ ¬ Tr.own ⟨true, l, h, b, [], w3.heap.size, .slice none 0 0⟩ c) := fun c hc _ =>
    ⟨⟨fun e => by have := begun_own e; omega, fun e => by have := begun_own e; omega⟩, (hb4.block c (by omega)).trans ((hb3.block c (by omega)).trans (hb2.block c hc))⟩
  have hS := hl.keep hK
  refine ⟨?_, ?_, rfl, rfl, rfl, rfl, fun c e => by have := begun_own e; omega, fun c e => by have := begun_own e; omega, ?_, ?_, ?_⟩
  · exact (hx.mono (by decide)).keep (M := fun _ => False) (But.of hb4) (fun _ _ e => e.elim) (fun c hc e => by have := begun_own e; omega)
  · exact (hy.mono (by decide)).keep (M := fun _ => False) (But.of (Below.refl _ _)) (fun _ _ e => e.elim) (fun c hc e => begun_own e)
  · simpa [Tr.all] using hS
  · simpa [Tr.all] using hS
  · exact hv.keep fun c hc _ => ⟨⟨fun e => by have := begun_own e; omega, fun e => by have := begun_own e; omega⟩, (hb4.block c (by omega)).trans (hb3.block c hc)⟩
end Go.Proofs.YtaeldfnihocljaaDoor
