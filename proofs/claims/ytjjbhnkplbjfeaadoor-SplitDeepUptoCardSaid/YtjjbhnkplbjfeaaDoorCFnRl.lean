/- A range over a function that hands out values: the iterator's contract, and the loop's law. What is handed out lies in memory: so the law tells of it in the world of the round. -/
import Derived.Test.YtjjbhnkplbjfeaaDoorCFnR

set_option linter.unusedVariables false
set_option linter.unusedSimpArgs false
namespace Go.Proofs.YtjjbhnkplbjfeaaDoor
open Go.RowKit Go.Shelf

/-- What grows by new blocks alone keeps J. -/
def Stays (J : List V → World → Prop) : Prop := ∀ s W W', J s W → Below W.heap.size W W' → J s W'
/-- The blocks of T are as they were. -/
def Still (T : Nat → Prop) (W W' : World) : Prop := W.heap.size ≤ W'.heap.size ∧ ∀ b, T b → W'.heap[b]? = W.heap[b]?
theorem Still.refl (T : Nat → Prop) (W : World) : Still T W W := ⟨Nat.le_refl _, fun _ _ => rfl⟩
theorem Still.trans {T : Nat → Prop} {W W1 W2 : World} (h : Still T W W1) (k : Still T W1 W2) : Still T W W2 := ⟨Nat.le_trans h.1 k.1, fun b hs => (k.2 b hs).trans (h.2 b hs)⟩
theorem Still.below {T : Nat → Prop} {W W' : World} (h : Below W.heap.size W W') (hT : ∀ b, T b → b < W.heap.size) : Still T W W' := ⟨h.size, fun b hb => h.block b (hT b hb)⟩
/-- One round: what yield is called with, and how it is left. -/
def Round (T : Nat → Prop) (l : Nat) (J Jx : List V → World → Prop) (G : List V) : Prop :=
  ∀ pre x v Wj W, J pre Wj → Below Wj.heap.size Wj W → IsV W (fun b => Wj.heap.size ≤ b) x v → pre ++ [x] <+: G → ∀ m, YieldAt Fence.wide m Tryd.prog l #[v] W fun e W' =>
    (e = .returned (.bool true) ∧ J (pre ++ [x]) W' ∧ Still T W W') ∨ (e = .returned (.bool false) ∧ Jx (pre ++ [x]) W')
/-- An iterator that hands out G, or a part of it; of the blocks below B it looks at those of S, of the others at new ones. -/
def Each (g : Nat) (lb : Array Value) (S : Nat → Prop) (B : Nat) (G : List V) (w : World) : Prop :=
  ∀ (l : Nat) (J : (Nat → Prop) → List V → World → Prop) (Jx : List V → World → Prop) (W : World), Below w.heap.size w W → (∀ T, Stays (J T)) → Stays Jx → (∀ T, Round T l (J T) Jx G) →
    (∀ T W', Below W.heap.size W W' → (∀ b, T b → (S b ∧ b < B) ∨ (W.heap.size ≤ b ∧ b < W'.heap.size)) → J T [] W') → ∀ n,
    CallsIn Fence.wide n Tryd.prog g (#[.func (.yield l) #[] #[]] ++ lb) W fun e W' => (∃ v, e = .returned v) ∧ ((∃ T, J T G W') ∨ ∃ pre, pre <+: G ∧ Jx pre W')

/-- How the body of a round may be left. -/
def leftBy (T : Nat → Prop) (B : Nat) (I : List V → World → Prop) (Ix : Code → List V → World → Prop) (xs : List V) (W : World) : Exit → Act → World → Prop
  | .normal, _, W' => KeepsFrom B W W' ∧ Still T W W' ∧ I xs W'
  | .ret, _, W' => KeepsFrom B W W' ∧ Ix .ret xs W'
  | .exit id, _, W' => KeepsFrom B W W' ∧ Ix (.exit id) xs W'
  | .goto t, _, W' => KeepsFrom B W W' ∧ Ix (.goto t) xs W'
  | .panic _, _, _ => False
  | .outgrown, _, _ => False
theorem grown_of_below {W W' : World} (h : Below W.heap.size W W') : W.grownBy W' none := ⟨h.os, h.tape, h.output, h.size, fun k hk _ => h.block k hk⟩
theorem grown_any {W W' : World} {r : Option Nat} (h : Below W.heap.size W W') : W.grownBy W' r := ⟨h.os, h.tape, h.output, h.size, fun k hk _ => h.block k hk⟩
theorem keepsFrom_below {B : Nat} {W W' : World} (h : Below W.heap.size W W') : KeepsFrom B W W' := ⟨h.size, fun k o _ ho _ => (h.block k (Array.getElem?_eq_some_iff.1 ho).1).trans ho⟩

theorem range_law {g : Operand} {ps : Array Tmp} {assign body : Code} {Q : Exit → Act → World → Prop} {a : Act} {w : World} (n : Nat) {gf : Nat} {lb : Array Value} (hg : a.eval g = .func (.func gf) #[] lb) (eg : ∀ args w, (callFunc gf args).run Tryd.prog w = .ok (.enter gf args) w)
    {G : List V} {S : Nat → Prop} (hseq : Each gf lb S w.heap.size G w) (hps : ps.size = 1) (I : (Nat → Prop) → List V → World → Prop) (Ix : Code → List V → World → Prop) (hI : ∀ T s W W', I T s W → W.grownBy W' (some (w.heap.size + 1)) → I T s W') (hIx : ∀ c s W W', Ix c s W → W.grownBy W' (some (w.heap.size + 1)) → Ix c s W') (h0 : ∀ T W, Below w.heap.size w W → w.heap.size + 2 ≤ W.heap.size → (∀ b, T b → (S b ∧ b < w.heap.size) ∨ (w.heap.size + 2 ≤ b ∧ b < W.heap.size)) → I T [] W)
    (hround : ∀ (T : Nat → Prop) (l : Nat) (pre : List V) (x : V) (v : Value) (W0 W : World) (m : Nat), I T pre W0 → Below W0.heap.size W0 W → w.heap.size + 2 ≤ W0.heap.size → IsV W (fun b => W0.heap.size ≤ b) x v → pre ++ [x] <+: G →
      assign.wpIn (Fence.wide.inRound l) m Tryd.prog (Exit.then (fun a' Wa => Below W.heap.size W Wa ∧ ∀ Wb, Wa.grownBy Wb (some (w.heap.size + 1)) → I T pre Wb →
        body.wpIn (Fence.wide.inRound l) m Tryd.prog (leftBy T w.heap.size (I T) Ix (pre ++ [x]) Wb) a' Wb) (fun _ _ _ => False)) { tmps := (ps.zip #[v]).foldl (fun t (p, v) => t.setIfInBounds p v) a.tmps, defers := [] } W)
    (hdone : ∀ (T : Nat → Prop) (D : Nat) (W : World), D = w.heap.size → I T G W → W.heap[D]? = some (.deferred (some [])) → Q .normal { a with defers := { target := .collected D, args := #[] } :: a.defers } W)
    (hstop : ∀ (D : Nat) (c : Code) (pre : List V) (W : World), D = w.heap.size → pre <+: G → Ix c pre W → W.heap[D]? = some (.deferred (some [])) → c.wpIn Fence.wide n Tryd.prog Q { a with defers := { target := .collected D, args := #[] } :: a.defers } W) :
    (Code.rangeFunc g ps assign body).wpIn Fence.wide n Tryd.prog Q a w := by
  refine wpIn_rangeFunc fun fn hfn => ?_
  obtain ⟨rec, hrec⟩ : ∃ rec : LoopState → Option Code → Loop, rec = fun st pe => { state := st, pending := pe, fn, tmps := a.tmps, params := ps, assign, body, defers := w.heap.size } := ⟨_, rfl⟩
  obtain ⟨W1, hW1⟩ : ∃ W1, (w.alloc (.deferred (some []))).alloc (.loop (rec .ready none)) = W1 := ⟨_, rfl⟩
  have hB1 : Below w.heap.size w W1 := by rw [← hW1]; exact ((Below.refl _ _).alloc (Nat.le_refl _) _).alloc (by simp) _
  have hL1 : W1.heap[w.heap.size + 1]? = some (.loop (rec .ready none)) := by
    rw [← hW1]; have := World.alloc_heap_new (w.alloc (.deferred (some []))) (.loop (rec .ready none)); rwa [World.size_alloc] at this
  have hK1 : W1.heap[w.heap.size]? = some (.deferred (some [])) := by
    rw [← hW1]; exact (Below.heap_alloc _ _ _ (by simp)).trans (World.alloc_heap_new w _)
  have hs1 : W1.heap.size = w.heap.size + 2 := by rw [← hW1]; simp
  -- the two blocks of book-keeping
  let BK : LoopState → Option Code → World → Prop := fun st pe W => W.heap[w.heap.size + 1]? = some (.loop (rec st pe)) ∧ W.heap[w.heap.size]? = some (.deferred (some []))
  have bk_below : ∀ {st pe W W'}, BK st pe W → Below W.heap.size W W' → BK st pe W' := fun h hb => ⟨(hb.block _ (Array.getElem?_eq_some_iff.1 h.1).1).trans h.1, (hb.block _ (Array.getElem?_eq_some_iff.1 h.2).1).trans h.2⟩
  have bk_keeps : ∀ {st pe W W'}, BK st pe W → KeepsFrom w.heap.size W W' → BK st pe W' := fun h hk => ⟨hk.same _ _ (by omega) h.1 rfl, hk.same _ _ (Nat.le_refl _) h.2 rfl⟩
  have bk_put : ∀ {st pe W} (st' : LoopState) (pe' : Option Code), BK st pe W → BK st' pe' (W.putObj (w.heap.size + 1) (.loop (rec st' pe'))) := fun st' pe' h => ⟨World.putObj_heap_same (Array.getElem?_eq_some_iff.1 h.1).1, (World.putObj_heap_other (by omega)).trans h.2⟩
  refine ⟨w.heap.size + 1, [{ target := .collected w.heap.size, args := #[] }], W1, { target := .fn (.func gf) lb, args := #[.func (.yield (w.heap.size + 1)) #[] #[]] }, W1, gf,
    #[.func (.yield (w.heap.size + 1)) #[] #[]] ++ lb, W1, ?_, ?_, ?_, ?_, fun h => (by cases h), ?_⟩
  · rw [← hW1, hrec]; exact run_enterLoop_outer _ _ _ _ _
  · simp only [resolve, hg]
    simp [go_sem]
  · intro f' hf'; trivial
  · simp [invoke, go_sem, eg]
  · refine (hseq (w.heap.size + 1) (fun T pre W => I T pre W ∧ BK .ready none W ∧ ∀ b, T b → b ≠ w.heap.size + 1 ∧ b < W.heap.size) (fun pre W => ∃ c, Ix c pre W ∧ BK .done (some c) W) W1 hB1
      (fun T s W W' h hb => ⟨hI T s W W' h.1 (grown_any hb), bk_below h.2.1 hb, fun b hT => ⟨(h.2.2 b hT).1, Nat.lt_of_lt_of_le (h.2.2 b hT).2 hb.size⟩⟩)
      (fun s W W' ⟨c, h1, h2⟩ hb => ⟨c, hIx c s W W' h1 (grown_any hb), bk_below h2 hb⟩) ?_ (fun T W' hb hT => ⟨h0 T W' (below_then hB1 hB1.size hb) (by have := hb.size; omega) (fun b h => by have := hT b h; rw [hs1] at this; exact this), bk_below ⟨hL1, hK1⟩ hb, fun b h => by have := hT b h; have := hb.size; omega⟩) (n - 1)).mono ?_
    · -- one round
      intro T pre x v Wj W ⟨hi, hbk, hsz⟩ hb hv hpre m
      have hlt : w.heap.size + 1 < Wj.heap.size := (Array.getElem?_eq_some_iff.1 hbk.1).1
      have hbk2 := bk_below hbk hb
      have hy := run_yield (P := Tryd.prog) (args := #[v]) hbk2.1 (by rw [hrec]; exact hps.symm)
      rw [hrec] at hy
      refine ⟨fn, _, assign, body, hy, roundIn_of_wpIn hfn (wpIn_mono (hround T (w.heap.size + 1) pre x v Wj W m hi hb (by omega) hv hpre) ?_)⟩
      clear hy
      rintro e a' Wa hp
      cases e with
      | normal =>
        obtain ⟨hba, hbody⟩ := hp
        have hbk3 := bk_below hbk2 hba
        have hgr := grownBy_putObj' Wa (w.heap.size + 1) (.loop (rec .busy none))
        have hi3 : I T pre Wa := hI T pre Wj Wa hi (grown_any (below_then hb hb.size hba))
        refine ⟨Wa.putObj (w.heap.size + 1) (.loop (rec .busy none)), by have := run_beginRound (P := Tryd.prog) hbk3.1 (by rw [hrec]); rw [hrec] at this ⊢; exact this, ?_⟩
        have hbk4 := bk_put .busy none hbk3
        have hi4 : I T pre (Wa.putObj (w.heap.size + 1) (.loop (rec .busy none))) := hI _ _ _ _ hi3 hgr
        refine wpIn_mono (hbody _ hgr hi4) ?_
        have hag : Still T W (Wa.putObj (w.heap.size + 1) (.loop (rec .busy none))) := by
          refine (Still.below hba fun b hb' => Nat.lt_of_lt_of_le (hsz b hb').2 hb.size).trans ⟨by have := hgr.size; exact this, fun k hk => hgr.block k (Nat.lt_of_lt_of_le (hsz k hk).2 (Nat.le_trans hb.size hba.size)) (fun e => by injection e with e; exact (hsz k hk).1 e)⟩
        have fin : ∀ (jump : Option Code) (W3 : World), KeepsFrom w.heap.size (Wa.putObj (w.heap.size + 1) (.loop (rec .busy none))) W3 →
            (Instr.endRound (w.heap.size + 1) jump).run Tryd.prog W3 = .ok (.bool jump.isNone) (W3.putObj (w.heap.size + 1) (.loop (rec (if jump.isNone then .ready else .done) jump))) ∧ BK .busy none W3 := fun jump W3 hk3 => by
          have hb3 := bk_keeps hbk4 hk3
          have := run_endRound (P := Tryd.prog) jump hb3.1
          rw [hrec] at this ⊢
          exact ⟨this, hb3⟩
        rintro e a3 W3 hp
        cases e with
        | normal =>
          obtain ⟨hk3, hag3, hi3'⟩ := hp
          obtain ⟨hr, hb3⟩ := fin none W3 hk3
          have hgr3 := grownBy_putObj' W3 (w.heap.size + 1) (.loop (rec (if (none : Option Code).isNone = true then .ready else .done) none))
          have hw3 : w.heap.size ≤ W3.heap.size := Nat.le_of_lt (by have := (Array.getElem?_eq_some_iff.1 hb3.2).1; exact this)
          have hle : Wj.heap.size ≤ W3.heap.size := Nat.le_trans (Nat.le_trans hb.size hba.size) (Nat.le_trans (by have := hgr.size; exact this) hk3.size)
          refine ⟨_, _, hr, .inl ⟨rfl, ⟨hI _ _ _ _ hi3' hgr3, bk_put .ready none hb3, fun b hT => ⟨(hsz b hT).1, by have := (hsz b hT).2; have := hgr3.size; omega⟩⟩, (hag.trans hag3).trans ⟨by have := hgr3.size; exact this, fun k hk => hgr3.block k (by have := (hsz k hk).2; omega) (fun e => by injection e with e; exact (hsz k hk).1 e)⟩⟩⟩
        | ret =>
          obtain ⟨hk3, hi3'⟩ := hp
          obtain ⟨hr, hb3⟩ := fin (some .ret) W3 hk3
          exact ⟨_, _, hr, .inr ⟨rfl, .ret, hIx _ _ _ _ hi3' (grownBy_putObj' W3 (w.heap.size + 1) _), bk_put .done (some .ret) hb3⟩⟩
        | exit id =>
          obtain ⟨hk3, hi3'⟩ := hp
          obtain ⟨hr, hb3⟩ := fin (some (.exit id)) W3 hk3
          exact ⟨_, _, hr, .inr ⟨rfl, .exit id, hIx _ _ _ _ hi3' (grownBy_putObj' W3 (w.heap.size + 1) _), bk_put .done (some (.exit id)) hb3⟩⟩
        | goto t =>
          obtain ⟨hk3, hi3'⟩ := hp
          obtain ⟨hr, hb3⟩ := fin (some (.goto t)) W3 hk3
          exact ⟨_, _, hr, .inr ⟨rfl, .goto t, hIx _ _ _ _ hi3' (grownBy_putObj' W3 (w.heap.size + 1) _), bk_put .done (some (.goto t)) hb3⟩⟩
        | panic ch => exact hp.elim
        | outgrown => exact hp.elim
      | ret => exact hp.elim
      | exit id => exact hp.elim
      | goto t => exact hp.elim
      | panic ch => exact hp.elim
      | outgrown => exact hp.elim
    · -- behind the iterator
      rintro e W2 ⟨⟨v, rfl⟩, (⟨T, hi, hb, _⟩ | ⟨pre, hpre, c, hi, hb⟩)⟩
      · exact ⟨none, _, by have := run_endLoop (P := Tryd.prog) hb.1 (by rw [hrec]; simp); rw [hrec] at this; exact this, hdone T _ _ rfl (hI _ _ _ _ hi (grownBy_putObj' W2 (w.heap.size + 1) _)) ((World.putObj_heap_other (by omega)).trans hb.2)⟩
      · exact ⟨some c, _, by have := run_endLoop (P := Tryd.prog) hb.1 (by rw [hrec]; simp); rw [hrec] at this; exact this, hstop _ c pre _ rfl hpre (hIx c _ _ _ hi (grownBy_putObj' W2 (w.heap.size + 1) _)) ((World.putObj_heap_other (by omega)).trans hb.2)⟩
end Go.Proofs.YtjjbhnkplbjfeaaDoor
