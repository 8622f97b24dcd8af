/- What changes when one thing is changed. -/
import Derived.Test.YtoiipdknamgcmaaGreatDoorCBase

set_option linter.unusedVariables false
namespace Go.Proofs.YtoiipdknamgcmaaGreatDoor
open Go.RowKit

/-- Of the old blocks none but those of M has changed. -/
structure But (M : Nat → Prop) (w w' : World) : Prop where
  os : w'.os = w.os
  tape : w'.tape = w.tape
  output : w'.output = w.output
  size : w.heap.size ≤ w'.heap.size
  block : ∀ b, b < w.heap.size → ¬ M b → w'.heap[b]? = w.heap[b]?
theorem But.of {M : Nat → Prop} {w w' : World} (h : Below w.heap.size w w') : But M w w' := ⟨h.os, h.tape, h.output, h.size, fun b hb _ => h.block b hb⟩
theorem But.trans {M : Nat → Prop} {w w1 w2 : World} (h : But M w w1) (k : But M w1 w2) : But M w w2 := ⟨k.os.trans h.os, k.tape.trans h.tape, k.output.trans h.output, Nat.le_trans h.size k.size, fun b hb hm => (k.block b (Nat.lt_of_lt_of_le hb h.size) hm).trans (h.block b hb hm)⟩
theorem But.mono {M M' : Nat → Prop} {w w' : World} (h : But M w w') (hm : ∀ b, b < w.heap.size → M b → M' b) : But M' w w' := ⟨h.os, h.tape, h.output, h.size, fun b hb hn => h.block b hb fun e => hn (hm b hb e)⟩
theorem But.keeps {M : Nat → Prop} {S : Nat → Prop} {w w' : World} (h : But M w w') (hs : ∀ b, S b → ¬ M b) : Keeps w S w' S := fun b hb h1 => ⟨h1, h.block b hb (hs b h1)⟩
theorem But.below {M : Nat → Prop} {w w' : World} {n : Nat} (h : But M w w') (hn : n ≤ w.heap.size) (hm : ∀ b, M b → n ≤ b) : Below n w w' := ⟨h.os, h.tape, h.output, h.size, fun b hb => h.block b (Nat.lt_of_lt_of_le hb hn) fun e => by have := hm b e; omega⟩
theorem But.set {M : Nat → Prop} {w w' : World} (h : But M w w') {p : Addr} (hp : w.heap.size ≤ p.block ∨ M p.block) (u : Value) : But M w (w'.setCell p u) :=
  ⟨h.os, h.tape, h.output, by simp; exact h.size, fun b hb hm => by
    rw [Below.heap_setCell _ _ _ _ (fun e => by rcases hp with hp | hp; omega; exact hm (e ▸ hp))]
    exact h.block b hb hm⟩

end Go.Proofs.YtoiipdknamgcmaaGreatDoor
