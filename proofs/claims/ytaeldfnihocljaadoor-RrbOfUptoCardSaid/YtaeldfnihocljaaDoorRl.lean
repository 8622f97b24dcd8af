/- A range over a function that hands out places and values: the iterator's contract, and the loop's law. What is handed out lies in memory: so the law tells of it in the world of the round. -/
import Derived.Test.YtaeldfnihocljaaDoorRg
set_option linter.unusedVariables false
set_option linter.unusedSimpArgs false
namespace Go.Proofs.YtaeldfnihocljaaDoor
open Go.RowKit Go.Shelf

/-- What grows by new blocks alone keeps J. -/
def Stays (J : List (Nat × V) → World → Prop) : Prop := ∀ s W W', J s W → Below W.heap.size W W' → J s W'
/-- Worlds that agree upon the blocks of S below block B. -/
def Agree (S : Nat → Prop) (B : Nat) (W W' : World) : Prop := W.heap.size ≤ W'.heap.size ∧ ∀ b, b < B → S b → W'.heap[b]? = W.heap[b]?
theorem Agree.refl (S : Nat → Prop) (B : Nat) (W : World) : Agree S B W W := ⟨Nat.le_refl _, fun _ _ _ => rfl⟩
theorem Agree.trans {S : Nat → Prop} {B : Nat} {W W1 W2 : World} (h : Agree S B W W1) (k : Agree S B W1 W2) : Agree S B W W2 := ⟨Nat.le_trans h.1 k.1, fun b hb hs => (k.2 b hb hs).trans (h.2 b hb hs)⟩
theorem Agree.below {S : Nat → Prop} {B : Nat} {W W' : World} (h : Below W.heap.size W W') (hB : B ≤ W.heap.size) : Agree S B W W' := ⟨h.size, fun b hb _ => h.block b (by omega)⟩
theorem Agree.keeps {B : Nat} {W W' : World} {S : Nat → Prop} (h : Agree S B W W') : Keeps W (fun b => S b ∧ b < B) W' (fun b => S b ∧ b < B) := fun b _ hs => ⟨hs, h.2 b hs.2 hs.1⟩
/-- One round: what yield is called with, and how it is left. -/
def Round (S : Nat → Prop) (B l : Nat) (J Jx : List (Nat × V) → World → Prop) (G : List (Nat × V)) : Prop :=
  ∀ pre i x v Wj W, J pre Wj → Below Wj.heap.size Wj W → IsV W (fun b => Wj.heap.size ≤ b) x v → pre ++ [(i, x)] <+: G → ∀ m, YieldAt Fence.wide m Tryd.prog l #[.int .i64 ((i : Nat) : Int), v] W fun e W' =>
    (e = .returned (.bool true) ∧ J (pre ++ [(i, x)]) W' ∧ Agree S B W W') ∨ (e = .returned (.bool false) ∧ Jx (pre ++ [(i, x)]) W')
/-- An iterator that hands out G, or a part of it. -/
def Each (g : Nat) (lb : Array Value) (S : Nat → Prop) (B : Nat) (G : List (Nat × V)) (w : World) : Prop :=
  ∀ (l : Nat) (J Jx : List (Nat × V) → World → Prop) (W : World), Below w.heap.size w W → Stays J → Stays Jx → Round S B l J Jx G → J [] W → ∀ n,
    CallsIn Fence.wide n Tryd.prog g (#[.func (.yield l) #[] #[]] ++ lb) W fun e W' => (∃ v, e = .returned v) ∧ (J G W' ∨ ∃ pre, pre <+: G ∧ Jx pre W')

/-- How the body of a round may be left. -/
def leftBy (S : Nat → Prop) (B : Nat) (I : List (Nat × V) → World → Prop) (Ix : Code → List (Nat × V) → World → Prop) (xs : List (Nat × V)) (W : World) : Exit → Act → World → Prop
  | .normal, _, W' => KeepsFrom B W W' ∧ Agree S B W W' ∧ I xs W'
  | .ret, _, W' => KeepsFrom B W W' ∧ Ix .ret xs W'
  | .exit id, _, W' => KeepsFrom B W W' ∧ Ix (.exit id) xs W'
  | .goto t, _, W' => KeepsFrom B W W' ∧ Ix (.goto t) xs W'
  | .panic _, _, _ => False
  | .outgrown, _, _ => False
theorem grown_of_below {W W' : World} (h : Below W.heap.size W W') : W.grownBy W' none := ⟨h.os, h.tape, h.output, h.size, fun k hk _ => h.block k hk⟩
theorem grown_any {W W' : World} {r : Option Nat} (h : Below W.heap.size W W') : W.grownBy W' r := ⟨h.os, h.tape, h.output, h.size, fun k hk _ => h.block k hk⟩
theorem keepsFrom_below {B : Nat} {W W' : World} (h : Below W.heap.size W W') : KeepsFrom B W W' := ⟨h.size, fun k o _ ho _ => (h.block k (Array.getElem?_eq_some_iff.1 ho).1).trans ho⟩

theorem range_law {g : Operand} {ps : Array Tmp} {assign body : Code} {Q : Exit → Act → World → Prop} {a : Act} {w : World} (n : Nat) {gf : Nat} {lb : Array Value} (hg : a.eval g = .func (.func gf) #[] lb) (eg : ∀ args w, (callFunc gf args).run Tryd.prog w = .ok (.enter gf args) w)
    {G : List (Nat × V)} {S : Nat → Prop} (hseq : Each gf lb S w.heap.size G w) (hps : ps.size = 2) (I : List (Nat × V) → World → Prop) (Ix : Code → List (Nat × V) → World → Prop) (hI : ∀ s W W', I s W → W.grownBy W' (some (w.heap.size + 1)) → I s W') (hIx : ∀ c s W W', Ix c s W → W.grownBy W' (some (w.heap.size + 1)) → Ix c s W') (h0 : I [] w)
    (hround : ∀ (l : Nat) (pre : List (Nat × V)) (i : Nat) (x : V) (v : Value) (W0 W : World) (m : Nat), I pre W0 → Below W0.heap.size W0 W → w.heap.size + 2 ≤ W0.heap.size → IsV W (fun b => W0.heap.size ≤ b) x v → pre ++ [(i, x)] <+: G →
      assign.wpIn (Fence.wide.inRound l) m Tryd.prog (Exit.then (fun a' Wa => Below W.heap.size W Wa ∧ ∀ Wb, Wa.grownBy Wb (some (w.heap.size + 1)) → I pre Wb →
        body.wpIn (Fence.wide.inRound l) m Tryd.prog (leftBy S w.heap.size I Ix (pre ++ [(i, x)]) Wb) a' Wb) (fun _ _ _ => False)) { tmps := (ps.zip #[.int .i64 (i : Int), v]).foldl (fun t (p, v) => t.setIfInBounds p v) a.tmps, defers := [] } W)
    (hdone : ∀ (D : Nat) (W : World), D = w.heap.size → I G W → W.heap[D]? = some (.deferred (some [])) → Q .normal { a with defers := { target := .collected D, args := #[] } :: a.defers } W)
    (hstop : ∀ (D : Nat) (c : Code) (pre : List (Nat × V)) (W : World), D = w.heap.size → pre <+: G → Ix c pre W → W.heap[D]? = some (.deferred (some [])) → c.wpIn Fence.wide n Tryd.prog Q { a with defers := { target := .collected D, args := #[] } :: a.defers } W) :
    (Code.rangeFunc g ps assign body).wpIn Fence.wide n Tryd.prog Q a w := by
  refine wpIn_rangeFunc fun fn hfn => ?_
  obtain ⟨rec, hrec⟩ : ∃ rec : LoopState → Option Code → Loop, rec = fun st pe => { state := st, pending := pe, fn, tmps := a.tmps, params := ps, assign, body, defers := w.heap.size } := ⟨_, rfl⟩
  obtain ⟨W1, hW1⟩ : ∃ W1, (w.alloc (.deferred (some []))).alloc (.loop (rec .ready none)) = W1 := ⟨_, rfl⟩
  have hB1 : Below w.heap.size w W1 := by rw [← hW1]; exact ((Below.refl _ _).alloc (Nat.le_refl _) _).alloc (by simp) _
  have hL1 : W1.heap[w.heap.size + 1]? = some (.loop (rec .ready none)) := by
    rw [← hW1]; have := World.alloc_heap_new (w.alloc (.deferred (some []))) (.loop (rec .ready none)); rwa [World.size_alloc] at this
  have hK1 : W1.heap[w.heap.size]? = some (.deferred (some [])) := by
    rw [← hW1]; exact (Below.heap_alloc _ _ _ (by simp)).trans (World.alloc_heap_new w _)
  have hI1 : I [] W1 := hI [] w W1 h0 (grown_any hB1)
  -- the two blocks of book-keeping
  let BK : LoopState → Option Code → World → Prop := fun st pe W => W.heap[w.heap.size + 1]? = some (.loop (rec st pe)) ∧ W.heap[w.heap.size]? = some (.deferred (some []))
  have bk_below : ∀ {st pe W W'}, BK st pe W → Below W.heap.size W W' → BK st pe W' := fun h hb => ⟨(hb.block _ (Array.getElem?_eq_some_iff.1 h.1).1).trans h.1, (hb.block _ (Array.getElem?_eq_some_iff.1 h.2).1).trans h.2⟩
  have bk_keeps : ∀ {st pe W W'}, BK st pe W → KeepsFrom w.heap.size W W' → BK st pe W' := fun h hk => ⟨hk.same _ _ (by omega) h.1 rfl, hk.same _ _ (Nat.le_refl _) h.2 rfl⟩
  have bk_put : ∀ {st pe W} (st' : LoopState) (pe' : Option Code), BK st pe W → BK st' pe' (W.putObj (w.heap.size + 1) (.loop (rec st' pe'))) := fun st' pe' h => ⟨World.putObj_heap_same (Array.getElem?_eq_some_iff.1 h.1).1, (World.putObj_heap_other (by omega)).trans h.2⟩
  refine ⟨w.heap.size + 1, [{ target := .collected w.heap.size, args := #[] }], W1, { target := .fn (.func gf) lb, args := #[.func (.yield (w.heap.size + 1)) #[] #[]] }, W1, gf,
    #[.func (.yield (w.heap.size + 1)) #[] #[]] ++ lb, W1, ?_, ?_, ?_, ?_, fun h => (by cases h), ?_⟩
  · rw [← hW1, hrec]; exact run_enterLoop_outer _ _ _ _ _
  · simp only [resolve, hg]
    simp [go_sem]
  · intro f' hf'; trivial
  · simp [invoke, go_sem, eg]
  · refine (hseq (w.heap.size + 1) (fun pre W => I pre W ∧ BK .ready none W ∧ w.heap.size ≤ W.heap.size) (fun pre W => ∃ c, Ix c pre W ∧ BK .done (some c) W) W1 hB1
      (fun s W W' h hb => ⟨hI s W W' h.1 (grown_any hb), bk_below h.2.1 hb, Nat.le_trans h.2.2 hb.size⟩)
      (fun s W W' ⟨c, h1, h2⟩ hb => ⟨c, hIx c s W W' h1 (grown_any hb), bk_below h2 hb⟩) ?_ ⟨hI1, ⟨hL1, hK1⟩, hB1.size⟩ (n - 1)).mono ?_
    · -- one round
      intro pre i x v Wj W ⟨hi, hbk, hsz⟩ hb hv hpre m
      have hlt : w.heap.size + 1 < Wj.heap.size := (Array.getElem?_eq_some_iff.1 hbk.1).1
      have hbk2 := bk_below hbk hb
      have hy := run_yield (P := Tryd.prog) (args := #[.int .i64 (i : Int), v]) hbk2.1 (by rw [hrec]; exact hps.symm)
      rw [hrec] at hy
      refine ⟨fn, _, assign, body, hy, roundIn_of_wpIn hfn (wpIn_mono (hround (w.heap.size + 1) pre i x v Wj W m hi hb (by omega) hv hpre) ?_)⟩
      clear hy
      rintro e a' Wa hp
      cases e with
      | normal =>
        obtain ⟨hba, hbody⟩ := hp
        have hbk3 := bk_below hbk2 hba
        have hgr := grownBy_putObj' Wa (w.heap.size + 1) (.loop (rec .busy none))
        have hi3 : I pre Wa := hI pre Wj Wa hi (grown_any (below_then hb hb.size hba))
        refine ⟨Wa.putObj (w.heap.size + 1) (.loop (rec .busy none)), by have := run_beginRound (P := Tryd.prog) hbk3.1 (by rw [hrec]); rw [hrec] at this ⊢; exact this, ?_⟩
        have hbk4 := bk_put .busy none hbk3
        have hi4 : I pre (Wa.putObj (w.heap.size + 1) (.loop (rec .busy none))) := hI _ _ _ hi3 hgr
        refine wpIn_mono (hbody _ hgr hi4) ?_
        have hag : Agree S w.heap.size W (Wa.putObj (w.heap.size + 1) (.loop (rec .busy none))) := by
          refine (Agree.below hba (Nat.le_trans hsz hb.size)).trans ⟨by have := hgr.size; exact this, fun k hk _ => hgr.block k (Nat.lt_of_lt_of_le hk (Nat.le_trans hsz (Nat.le_trans hb.size hba.size))) (fun e => by injection e with e; omega)⟩
        have fin : ∀ (jump : Option Code) (W3 : World), KeepsFrom w.heap.size (Wa.putObj (w.heap.size + 1) (.loop (rec .busy none))) W3 →
            (Instr.endRound (w.heap.size + 1) jump).run Tryd.prog W3 = .ok (.bool jump.isNone) (W3.putObj (w.heap.size + 1) (.loop (rec (if jump.isNone then .ready else .done) jump))) ∧ BK .busy none W3 := fun jump W3 hk3 => by
          have hb3 := bk_keeps hbk4 hk3
          have := run_endRound (P := Tryd.prog) jump hb3.1
          rw [hrec] at this ⊢
          exact ⟨this, hb3⟩
        rintro e a3 W3 hp
        cases e with
        | normal =>
          obtain ⟨hk3, hag3, hi3'⟩ := hp
          obtain ⟨hr, hb3⟩ := fin none W3 hk3
          have hgr3 := grownBy_putObj' W3 (w.heap.size + 1) (.loop (rec (if (none : Option Code).isNone = true then .ready else .done) none))
          have hw3 : w.heap.size ≤ W3.heap.size := Nat.le_of_lt (by have := (Array.getElem?_eq_some_iff.1 hb3.2).1; exact this)
          refine ⟨_, _, hr, .inl ⟨rfl, ⟨hI _ _ _ hi3' hgr3, bk_put .ready none hb3, by have := hgr3.size; omega⟩, (hag.trans hag3).trans ⟨by have := hgr3.size; exact this, fun k hk _ => hgr3.block k (Nat.lt_of_lt_of_le hk hw3) (fun e => by injection e with e; omega)⟩⟩⟩
        | ret =>
          obtain ⟨hk3, hi3'⟩ := hp
          obtain ⟨hr, hb3⟩ := fin (some .ret) W3 hk3
          exact ⟨_, _, hr, .inr ⟨rfl, .ret, hIx _ _ _ _ hi3' (grownBy_putObj' W3 (w.heap.size + 1) _), bk_put .done (some .ret) hb3⟩⟩
        | exit id =>
          obtain ⟨hk3, hi3'⟩ := hp
          obtain ⟨hr, hb3⟩ := fin (some (.exit id)) W3 hk3
          exact ⟨_, _, hr, .inr ⟨rfl, .exit id, hIx _ _ _ _ hi3' (grownBy_putObj' W3 (w.heap.size + 1) _), bk_put .done (some (.exit id)) hb3⟩⟩
        | goto t =>
          obtain ⟨hk3, hi3'⟩ := hp
          obtain ⟨hr, hb3⟩ := fin (some (.goto t)) W3 hk3
          exact ⟨_, _, hr, .inr ⟨rfl, .goto t, hIx _ _ _ _ hi3' (grownBy_putObj' W3 (w.heap.size + 1) _), bk_put .done (some (.goto t)) hb3⟩⟩
        | panic ch => exact hp.elim
        | outgrown => exact hp.elim
      | ret => exact hp.elim
      | exit id => exact hp.elim
      | goto t => exact hp.elim
      | panic ch => exact hp.elim
      | outgrown => exact hp.elim
    · -- behind the iterator
      rintro e W2 ⟨⟨v, rfl⟩, (⟨hi, hb, _⟩ | ⟨pre, hpre, c, hi, hb⟩)⟩
      · exact ⟨none, _, by have := run_endLoop (P := Tryd.prog) hb.1 (by rw [hrec]; simp); rw [hrec] at this; exact this, hdone _ _ rfl (hI _ _ _ hi (grownBy_putObj' W2 (w.heap.size + 1) _)) ((World.putObj_heap_other (by omega)).trans hb.2)⟩
      · exact ⟨some c, _, by have := run_endLoop (P := Tryd.prog) hb.1 (by rw [hrec]; simp); rw [hrec] at this; exact this, hstop _ c pre _ rfl hpre (hIx c _ _ _ hi (grownBy_putObj' W2 (w.heap.size + 1) _)) ((World.putObj_heap_other (by omega)).trans hb.2)⟩
end Go.Proofs.YtaeldfnihocljaaDoor
