/- A range over a function that hands out values: the iterator's contract, and the loop's law. What is handed out lies in memory: so the law tells of it in the world of the round. -/
import Derived.Test.YtmnblgaefdahhaaGreatDoorCQtA
import Derived.Test.YtmnblgaefdahhaaGreatDoorCBase

set_option linter.unusedVariables false
set_option linter.unusedSimpArgs false
namespace Go.Proofs.YtmnblgaefdahhaaGreatDoor
open Go.RowKit Go.Shelf

/-- What grows by new blocks alone keeps J. -/
def Stays (J : List V → World → Prop) : Prop := ∀ s W W', J s W → Below W.heap.size W W' → J s W'
/-- What but grows, or turns blocks of T from N on, keeps J. -/
def StaysT (T : Nat → Prop) (N : Nat) (J : List V → World → Prop) : Prop := ∀ s W W', J s W → But (fun b => T b ∧ N ≤ b) W W' → J s W'
theorem StaysT.stays {T : Nat → Prop} {N : Nat} {J : List V → World → Prop} (h : StaysT T N J) : Stays J := fun s W W' hj hb => h s W W' hj (But.of hb)
/-- The blocks of T are as they were. -/
def Still (T : Nat → Prop) (W W' : World) : Prop := W.heap.size ≤ W'.heap.size ∧ ∀ b, T b → W'.heap[b]? = W.heap[b]?
theorem Still.refl (T : Nat → Prop) (W : World) : Still T W W := ⟨Nat.le_refl _, fun _ _ => rfl⟩
theorem Still.trans {T : Nat → Prop} {W W1 W2 : World} (h : Still T W W1) (k : Still T W1 W2) : Still T W W2 := ⟨Nat.le_trans h.1 k.1, fun b hs => (k.2 b hs).trans (h.2 b hs)⟩
theorem Still.below {T : Nat → Prop} {W W' : World} (h : Below W.heap.size W W') (hT : ∀ b, T b → b < W.heap.size) : Still T W W' := ⟨h.size, fun b hb => h.block b (hT b hb)⟩
/-- What is handed to yield. -/
abbrev Args := World → (Nat → Prop) → V → Array Value → Prop
def Ar1 : Args := fun w S x args => ∃ v, args = #[v] ∧ IsV w S x v
def Ar2 : Args := fun w S x args => ∃ vk vv v, args = #[vk, vv] ∧ IsV w S x vk ∧ IsV w S v vv
/-- The two blocks of a loop's book-keeping are as they were. -/
structure BkK (B : Nat) (W W' : World) : Prop where
  size : W.heap.size ≤ W'.heap.size
  b0 : W'.heap[B]? = W.heap[B]?
  b1 : W'.heap[B + 1]? = W.heap[B + 1]?
/-- One round: what yield is called with, and how it is left. -/
def Round (Ar : Args) (T : Nat → Prop) (N : Nat) (l : Nat) (J : List V → World → Prop) (G : List V) : Prop :=
  ∀ pre x args Wj W, J pre Wj → But (fun b => T b ∧ N ≤ b) Wj W → Ar W (fun b => Wj.heap.size ≤ b) x args → pre ++ [x] <+: G → ∀ m, YieldAt Fence.wide m Tryz.prog l args W fun e W' =>
    e = .returned (.bool true) ∧ J (pre ++ [x]) W' ∧ Still T W W'
/-- An iterator that hands out G, or a part of it; of the blocks below B it looks at those of S, of the others at new ones. -/
def Each (Ar : Args) (g : Nat) (lb : Array Value) (S : Nat → Prop) (B : Nat) (G : List V) (w : World) : Prop :=
  ∀ (l : Nat) (J : (Nat → Prop) → List V → World → Prop) (W : World), Below w.heap.size w W → (∀ T, StaysT T W.heap.size (J T)) → (∀ T, Round Ar T W.heap.size l (J T) G) →
    (∀ T W', Below W.heap.size W W' → (∀ b, T b → (S b ∧ b < B) ∨ (W.heap.size ≤ b ∧ b < W'.heap.size)) → J T [] W') → ∀ n,
    CallsIn Fence.wide n Tryz.prog g (#[.func (.yield l) #[] #[]] ++ lb) W fun e W' => (∃ v, e = .returned v) ∧ ∃ T, J T G W'

/-- How the body of a round may be left. -/
def leftBy (T : Nat → Prop) (B : Nat) (I : List V → World → Prop) (xs : List V) (W : World) : Exit → Act → World → Prop
  | .normal, _, W' => BkK B W W' ∧ Still T W W' ∧ I xs W'
  | _, _, _ => False
theorem grown_of_below {W W' : World} (h : Below W.heap.size W W') : W.grownBy W' none := ⟨h.os, h.tape, h.output, h.size, fun k hk _ => h.block k hk⟩
theorem grown_any {W W' : World} {r : Option Nat} (h : Below W.heap.size W W') : W.grownBy W' r := ⟨h.os, h.tape, h.output, h.size, fun k hk _ => h.block k hk⟩
theorem bkK_below {B : Nat} {W W' : World} (h : Below W.heap.size W W') (hB : B + 1 < W.heap.size) : BkK B W W' := ⟨h.size, h.block B (by omega), h.block (B + 1) hB⟩
theorem BkK.trans {B : Nat} {W W1 W2 : World} (h : BkK B W W1) (k : BkK B W1 W2) : BkK B W W2 := ⟨Nat.le_trans h.size k.size, k.b0.trans h.b0, k.b1.trans h.b1⟩
theorem range_law (Ar : Args) {g : Operand} {ps : Array Tmp} {assign body : Code} {Q : Exit → Act → World → Prop} {a : Act} {w : World} (n : Nat) {gf : Nat} {lb : Array Value} (hg : a.eval g = .func (.func gf) #[] lb) (eg : ∀ args w, (callFunc gf args).run Tryz.prog w = .ok (.enter gf args) w)
    {G : List V} {S : Nat → Prop} (hseq : Each Ar gf lb S w.heap.size G w) (hps : ∀ {W S x args}, Ar W S x args → args.size = ps.size) (I : (Nat → Prop) → List V → World → Prop) (hI : ∀ T s W W', I T s W → W.grownBy W' (some (w.heap.size + 1)) → I T s W') (hI2 : ∀ T s W W', I T s W → But (fun b => T b ∧ w.heap.size + 2 ≤ b) W W' → I T s W') (h0 : ∀ T W, Below w.heap.size w W → w.heap.size + 2 ≤ W.heap.size → (∀ b, T b → (S b ∧ b < w.heap.size) ∨ (w.heap.size + 2 ≤ b ∧ b < W.heap.size)) → I T [] W)
    (hround : ∀ (T : Nat → Prop) (l : Nat) (pre : List V) (x : V) (args : Array Value) (W0 W : World) (m : Nat), I T pre W0 → But (fun b => T b ∧ w.heap.size + 2 ≤ b) W0 W → w.heap.size + 2 ≤ W0.heap.size → (∀ b, T b → b < W0.heap.size) → Ar W (fun b => W0.heap.size ≤ b) x args → pre ++ [x] <+: G →
      assign.wpIn (Fence.wide.inRound l) m Tryz.prog (Exit.then (fun a' Wa => Below W.heap.size W Wa ∧ ∀ Wb, Wa.grownBy Wb (some (w.heap.size + 1)) → I T pre Wb →
        body.wpIn (Fence.wide.inRound l) m Tryz.prog (leftBy T w.heap.size (I T) (pre ++ [x]) Wb) a' Wb) (fun _ _ _ => False)) { tmps := (ps.zip args).foldl (fun t (p, v) => t.setIfInBounds p v) a.tmps, defers := [] } W)
    (hdone : ∀ (T : Nat → Prop) (D : Nat) (W : World), D = w.heap.size → I T G W → W.heap[D]? = some (.deferred (some [])) → Q .normal { a with defers := { target := .collected D, args := #[] } :: a.defers } W) :
    (Code.rangeFunc g ps assign body).wpIn Fence.wide n Tryz.prog Q a w := by
  refine wpIn_rangeFunc fun fn hfn => ?_
  obtain ⟨rec, hrec⟩ : ∃ rec : LoopState → Option Code → Loop, rec = fun st pe => { state := st, pending := pe, fn, tmps := a.tmps, params := ps, assign, body, defers := w.heap.size } := ⟨_, rfl⟩
  obtain ⟨W1, hW1⟩ : ∃ W1, (w.alloc (.deferred (some []))).alloc (.loop (rec .ready none)) = W1 := ⟨_, rfl⟩
  have hB1 : Below w.heap.size w W1 := by rw [← hW1]; exact ((Below.refl _ _).alloc (Nat.le_refl _) _).alloc (by simp) _
  have hL1 : W1.heap[w.heap.size + 1]? = some (.loop (rec .ready none)) := by
    rw [← hW1]; have := World.alloc_heap_new (w.alloc (.deferred (some []))) (.loop (rec .ready none)); rwa [World.size_alloc] at this
  have hK1 : W1.heap[w.heap.size]? = some (.deferred (some [])) := by
    rw [← hW1]; exact (Below.heap_alloc _ _ _ (by simp)).trans (World.alloc_heap_new w _)
  have hs1 : W1.heap.size = w.heap.size + 2 := by rw [← hW1]; simp
  -- the two blocks of book-keeping
  let BK : LoopState → Option Code → World → Prop := fun st pe W => W.heap[w.heap.size + 1]? = some (.loop (rec st pe)) ∧ W.heap[w.heap.size]? = some (.deferred (some []))
  have bk_below : ∀ {st pe W W'}, BK st pe W → Below W.heap.size W W' → BK st pe W' := fun h hb => ⟨(hb.block _ (Array.getElem?_eq_some_iff.1 h.1).1).trans h.1, (hb.block _ (Array.getElem?_eq_some_iff.1 h.2).1).trans h.2⟩
  have bk_keeps : ∀ {st pe W W'}, BK st pe W → BkK w.heap.size W W' → BK st pe W' := fun h hk => ⟨hk.b1.trans h.1, hk.b0.trans h.2⟩
  have bk_put : ∀ {st pe W} (st' : LoopState) (pe' : Option Code), BK st pe W → BK st' pe' (W.putObj (w.heap.size + 1) (.loop (rec st' pe'))) := fun st' pe' h => ⟨World.putObj_heap_same (Array.getElem?_eq_some_iff.1 h.1).1, (World.putObj_heap_other (by omega)).trans h.2⟩
  refine ⟨w.heap.size + 1, [{ target := .collected w.heap.size, args := #[] }], W1, { target := .fn (.func gf) lb, args := #[.func (.yield (w.heap.size + 1)) #[] #[]] }, W1, gf,
    #[.func (.yield (w.heap.size + 1)) #[] #[]] ++ lb, W1, ?_, ?_, ?_, ?_, fun h => (by cases h), ?_⟩
  · rw [← hW1, hrec]; exact run_enterLoop_outer _ _ _ _ _
  · simp only [resolve, hg]
    simp [go_sem]
  · intro f' hf'; trivial
  · simp [invoke, go_sem, eg]
  · refine (hseq (w.heap.size + 1) (fun T pre W => I T pre W ∧ BK .ready none W ∧ ∀ b, T b → b ≠ w.heap.size + 1 ∧ b < W.heap.size) W1 hB1
      (fun T s W W' h hb => ⟨hI2 T s W W' h.1 (hb.mono fun b _ hm => ⟨hm.1, by rw [← hs1]; exact hm.2⟩), ⟨(hb.block _ (Array.getElem?_eq_some_iff.1 h.2.1.1).1 (fun e => (h.2.2 _ e.1).1 rfl)).trans h.2.1.1, (hb.block _ (Array.getElem?_eq_some_iff.1 h.2.1.2).1 (fun e => by have := e.2; omega)).trans h.2.1.2⟩, fun b hT => ⟨(h.2.2 b hT).1, Nat.lt_of_lt_of_le (h.2.2 b hT).2 hb.size⟩⟩)
      ?_ (fun T W' hb hT => ⟨h0 T W' (below_then hB1 hB1.size hb) (by have := hb.size; omega) (fun b h => by have := hT b h; rw [hs1] at this; exact this), bk_below ⟨hL1, hK1⟩ hb, fun b h => by have := hT b h; have := hb.size; omega⟩) (n - 1)).mono ?_
    · -- one round
      intro T pre x args Wj W ⟨hi, hbk, hsz⟩ hb hv hpre m
      have hlt : w.heap.size + 1 < Wj.heap.size := (Array.getElem?_eq_some_iff.1 hbk.1).1
      have hb : But (fun b => T b ∧ w.heap.size + 2 ≤ b) Wj W := hb.mono fun b _ hm => ⟨hm.1, by rw [← hs1]; exact hm.2⟩
      have hbk2 : BK .ready none W := ⟨(hb.block _ hlt (fun e => by have := e.2; omega)).trans hbk.1, (hb.block _ (by omega) (fun e => by have := e.2; omega)).trans hbk.2⟩
      have hy := run_yield (P := Tryz.prog) (args := args) hbk2.1 (by rw [hrec]; exact hps hv)
      rw [hrec] at hy
      refine ⟨fn, _, assign, body, hy, roundIn_of_wpIn hfn (wpIn_mono (hround T (w.heap.size + 1) pre x args Wj W m hi hb (by omega) (fun b h => (hsz b h).2) hv hpre) ?_)⟩
      clear hy
      rintro e a' Wa hp
      cases e with
      | normal =>
        obtain ⟨hba, hbody⟩ := hp
        have hbk3 := bk_below hbk2 hba
        have hgr := grownBy_putObj' Wa (w.heap.size + 1) (.loop (rec .busy none))
        have hi3 : I T pre Wa := hI T pre W Wa (hI2 T pre Wj W hi hb) (grown_any hba)
        refine ⟨Wa.putObj (w.heap.size + 1) (.loop (rec .busy none)), by have := run_beginRound (P := Tryz.prog) hbk3.1 (by rw [hrec]); rw [hrec] at this ⊢; exact this, ?_⟩
        have hbk4 := bk_put .busy none hbk3
        have hi4 : I T pre (Wa.putObj (w.heap.size + 1) (.loop (rec .busy none))) := hI _ _ _ _ hi3 hgr
        refine wpIn_mono (hbody _ hgr hi4) ?_
        have hag : Still T W (Wa.putObj (w.heap.size + 1) (.loop (rec .busy none))) := by
          refine (Still.below hba fun b hb' => Nat.lt_of_lt_of_le (hsz b hb').2 hb.size).trans ⟨by have := hgr.size; exact this, fun k hk => hgr.block k (Nat.lt_of_lt_of_le (hsz k hk).2 (Nat.le_trans hb.size hba.size)) (fun e => by injection e with e; exact (hsz k hk).1 e)⟩
        have fin : ∀ (jump : Option Code) (W3 : World), BkK w.heap.size (Wa.putObj (w.heap.size + 1) (.loop (rec .busy none))) W3 →
            (Instr.endRound (w.heap.size + 1) jump).run Tryz.prog W3 = .ok (.bool jump.isNone) (W3.putObj (w.heap.size + 1) (.loop (rec (if jump.isNone then .ready else .done) jump))) ∧ BK .busy none W3 := fun jump W3 hk3 => by
          have hb3 := bk_keeps hbk4 hk3
          have := run_endRound (P := Tryz.prog) jump hb3.1
          rw [hrec] at this ⊢
          exact ⟨this, hb3⟩
        rintro e a3 W3 hp
        cases e with
        | normal =>
          obtain ⟨hk3, hag3, hi3'⟩ := hp
          obtain ⟨hr, hb3⟩ := fin none W3 hk3
          have hgr3 := grownBy_putObj' W3 (w.heap.size + 1) (.loop (rec (if (none : Option Code).isNone = true then .ready else .done) none))
          have hw3 : w.heap.size ≤ W3.heap.size := Nat.le_of_lt (by have := (Array.getElem?_eq_some_iff.1 hb3.2).1; exact this)
          have hle : Wj.heap.size ≤ W3.heap.size := Nat.le_trans (Nat.le_trans hb.size hba.size) (Nat.le_trans (by have := hgr.size; exact this) hk3.size)
          refine ⟨_, _, hr, ⟨rfl, ⟨hI _ _ _ _ hi3' hgr3, bk_put .ready none hb3, fun b hT => ⟨(hsz b hT).1, by have := (hsz b hT).2; have := hgr3.size; omega⟩⟩, (hag.trans hag3).trans ⟨by have := hgr3.size; exact this, fun k hk => hgr3.block k (by have := (hsz k hk).2; omega) (fun e => by injection e with e; exact (hsz k hk).1 e)⟩⟩⟩
        | ret => exact hp.elim
        | exit id => exact hp.elim
        | goto t => exact hp.elim
        | panic ch => exact hp.elim
        | outgrown => exact hp.elim
      | ret => exact hp.elim
      | exit id => exact hp.elim
      | goto t => exact hp.elim
      | panic ch => exact hp.elim
      | outgrown => exact hp.elim
    · -- behind the iterator
      rintro e W2 ⟨⟨v, rfl⟩, T, hi, hb, _⟩
      exact ⟨none, _, by have := run_endLoop (P := Tryz.prog) hb.1 (by rw [hrec]; simp); rw [hrec] at this; exact this, hdone T _ _ rfl (hI _ _ _ _ hi (grownBy_putObj' W2 (w.heap.size + 1) _)) ((World.putObj_heap_other (by omega)).trans hb.2)⟩
end Go.Proofs.YtmnblgaefdahhaaGreatDoor
