/- append of one cell, and the world's count of draws. -/
import Derived.Lib.TrimU
import Derived.Test.YtmnblgaefdahhaaGreatDoorCQmC

set_option linter.unusedVariables false
set_option linter.unusedSimpArgs false
namespace Go.Proofs.YtmnblgaefdahhaaGreatDoor
open Go.RowKit Go.Shelf
attribute [local go_sem] lt_succ_of

/-- The world has grown, and no draw was taken back. -/
structure Bd (w w' : World) : Prop where
  below : Below w.heap.size w w'
  drawn : w.drawn ≤ w'.drawn
theorem Bd.refl (w : World) : Bd w w := ⟨Below.refl _ _, Nat.le_refl _⟩
theorem Bd.trans {w w1 w2 : World} (h : Bd w w1) (k : Bd w1 w2) : Bd w w2 := ⟨below_then h.below h.below.size k.below, Nat.le_trans h.drawn k.drawn⟩
theorem Bq.bd {w w' : World} (h : Bq w w') : Bd w w' := ⟨h.below, by rw [h.drawn]; exact Nat.le_refl _⟩
theorem Bd.box (w : World) (o : Obj) : Bd w (w.alloc o) := (Bq.box w o).bd
theorem Bd.drew (w : World) : Bd w w.drew := ⟨⟨rfl, rfl, rfl, Nat.le_refl _, fun _ _ => rfl⟩, Nat.le_succ _⟩
theorem Bd.grow {w w' : World} (h : Bd w w') : ∃ q os, w' = Sort.grow (w.drewN q) os := by
  refine ⟨w'.drawn - w.drawn, w'.heap.extract w.heap.size w'.heap.size, ?_⟩
  have hs := h.below.size
  have hh : w'.heap = w.heap ++ w'.heap.extract w.heap.size w'.heap.size := by
    apply Array.ext_getElem?
    intro i
    rw [Array.getElem?_append]
    by_cases hi : i < w.heap.size
    · rw [if_pos hi, h.below.block i hi]
    · rw [if_neg hi, Array.getElem?_extract]
      by_cases h2 : i < w'.heap.size
      · rw [if_pos (by omega), show w.heap.size + (i - w.heap.size) = i by omega]
      · rw [if_neg (by omega), Array.getElem?_eq_none (by omega)]
  have h1 := h.below.os
  have h2 := h.below.tape
  have h3 := h.below.output
  have h4 := h.drawn
  obtain ⟨hp, tp, dr, oss, out⟩ := w'
  obtain ⟨hp0, tp0, dr0, os0, out0⟩ := w
  simp only at hh h1 h2 h3 h4
  subst h1
  subst h2
  subst h3
  unfold Sort.grow World.drewN
  simp only [World.mk.injEq, and_true, true_and]
  exact ⟨hh, by omega⟩
/-- The call's own blocks begin behind the world that it began in. -/
theorem Bd.grown {w w1 w2 : World} {row : Option Nat} (h : Bd w w1) (hg : w1.grownBy w2 row) (hd : w1.drawn ≤ w2.drawn) (hr : ∀ k, row = some k → w.heap.size ≤ k) : Bd w w2 := ⟨Below.grown h.below hg h.below.size hr, Nat.le_trans h.drawn hd⟩
theorem run_append_x {W : World} (T TS : TypeId) (e : Int → Value) (bytes : Nat) (hu : Tryz.prog.underlying TS = some (.slice T)) (z : Value) (hinf : (Tryz.prog.info? T).map (fun i => (i.zero, i.size, i.bytes)) = some (some z, 1, bytes)) (hzc : z.cells.size = 1) (hby : bytes ≤ 8) (base : Nat) (ty : TypeId)
    (v : Value) (l : List Int) (n : Int) (he : (e n).oneCell' = true) (HO : OwnX T e W base l v) (hbase : base ≤ W.heap.size) (hl : l.length ≤ 4294967296) :
    ∃ v1 w1, (Builtin.append_ #[TS, TS] ty #[v, .slice (some ⟨W.heap.size, 0, none⟩) 1 1]).run Tryz.prog (W.alloc (.cells #[e n] T)) = .ok v1 w1 ∧ OwnX T e w1 base (l ++ [n]) v1 ∧ W.grownBy w1 v.ownBlock ∧ W.drawn ≤ w1.drawn := by
  obtain ⟨i, hi, hz0, hz1, hz2⟩ := info_parts hinf
  have hown := World.ownsRow.alloc HO (.cells #[e n] T)
  have hnews := cell_one_new W (e n) T
  have hone : ∀ u ∈ [e n], u.oneCell' = true := by simpa using he
  have hbb : (l.length + 1) * bytes ≤ 140737488355328 := Nat.le_trans (Nat.mul_le_mul_left _ hby) (by omega)
  obtain ⟨v1, w1, hr, hown1, hg, _, hat⟩ := run_append_own_at (P := Tryz.prog) (W.alloc (.cells #[e n] T)) base TS ty T i z 1 bytes hu hi hz0 hz1 hz2 hzc (by decide) v l.length _ hown ⟨W.heap.size, 0, none⟩ 1 1 [e n] rfl
    hnews hone (by simp only [maxLen]; omega) hbb (by simp; omega)
  refine ⟨v1, w1, hr, ?_, World.grownBy.trans (World.grownBy_alloc W _ _) hg, ?_⟩
  · unfold OwnX
    rw [List.length_append, List.map_append]
    exact hown1
  · obtain ⟨h1, h2⟩ := hown
    rcases h2 with ⟨rfl, h2⟩ | ⟨g, cap, cur, rfl, hbg, hh, hc, hm, hs, ht⟩
    · have hk := run_append_nil (P := Tryz.prog) (W.alloc (.cells #[e n] T)) TS ty T i z hu hi hz0 ⟨W.heap.size, 0, none⟩ 1 1 [e n] (by rw [hz1]; rfl) hnews (by decide) (by decide) (by rw [hz2]; omega)
      rw [hk] at hr
      injection hr with _ hr
      rw [← hr]
      exact Nat.le_succ _
    · by_cases hroom : l.length + 1 ≤ cap
      · have hk := run_append_room (P := Tryz.prog) (W.alloc (.cells #[e n] T)) TS ty T i hu hi g l.length cap cur hh ⟨W.heap.size, 0, none⟩ 1 1 [e n] (by rw [hz1]; rfl) hnews hone hroom (by rw [hz1, hs]; simp; omega)
        rw [hk] at hr
        injection hr with _ hr
        rw [← hr]
        exact Nat.le_refl _
      · have hk := run_append_grow (P := Tryz.prog) (W.alloc (.cells #[e n] T)) TS ty T i z hu hi hz0 ⟨g, 0, none⟩ l.length cap (l.map e) (by rw [hz1, List.length_map]; omega) (fun j u hj => World.ownsRow.cells ⟨h1, .inr ⟨g, cap, cur, rfl, hbg, hh, hc, hm, hs, ht⟩⟩ rfl j u hj) ⟨W.heap.size, 0, none⟩ 1 1 [e n] (by rw [hz1]; rfl) hnews (by omega) (by omega) (growslice_fits (by omega) (by rw [hz2]; exact hbb))
        rw [hk] at hr
        injection hr with _ hr
        rw [← hr]
        exact Nat.le_succ _
section
variable {ops : Array Oper} {rest : List Oper} {o : Oper} {a : Act} {Q : Exit → Act → World → Prop}
theorem append_xd {W : World} (T TS : TypeId) (e : Int → Value) (bytes : Nat) (hu : Tryz.prog.underlying TS = some (.slice T)) (z : Value) (hinf : (Tryz.prog.info? T).map (fun i => (i.zero, i.size, i.bytes)) = some (some z, 1, bytes)) (hzc : z.cells.size = 1) (hby : bytes ≤ 8) (base : Nat) (hgd : o.guard = none) (s x : Operand)
    (ho : o.op = .call { callee := .builtin .append, args := #[s, x], argTypes := #[TS, TS] }) (v : Value) (l : List Int) (n : Int) (hs : a.eval s = v) (hx : a.eval x = .slice (some ⟨W.heap.size, 0, none⟩) 1 1) (he : (e n).oneCell' = true) (HO : OwnX T e W base l v)
    (hbase : base ≤ W.heap.size) (hl : l.length ≤ 4294967296)
    (h : ∀ v1 w1, OwnX T e w1 base (l ++ [n]) v1 → W.grownBy w1 v.ownBlock → W.drawn ≤ w1.drawn → wpList Tryz.prog ops Q rest (a.put o.dst v1) w1) :
    wpList Tryz.prog ops Q (o :: rest) a (W.alloc (.cells #[e n] T)) := by
  refine wpList_plain hgd fun K hK => ?_
  obtain ⟨v1, w1, hr, h2, h3, h4⟩ := run_append_x T TS e bytes hu z hinf hzc hby base o.type v l n he HO hbase hl
  unfold Oper.wp execOp
  simp only [ho, resolve, invoke, builtin, Sem.run_bind, Sem.run_pure, Result.andThen_ok, List.map_toArray, List.map_cons, List.map_nil, hs, hx, hr]
  exact hK _ _ (h v1 w1 h2 h3 h4)
/-- The same as a step of a region that draws its order. -/
theorem step_xd {W : World} {K : Act → World → Prop} {E : Prop} (T TS : TypeId) (e : Int → Value) (bytes : Nat) (hu : Tryz.prog.underlying TS = some (.slice T)) (z : Value) (hinf : (Tryz.prog.info? T).map (fun i => (i.zero, i.size, i.bytes)) = some (some z, 1, bytes)) (hzc : z.cells.size = 1) (hby : bytes ≤ 8) (base : Nat) (hgd : o.guard = none) (s x : Operand)
    (ho : o.op = .call { callee := .builtin .append, args := #[s, x], argTypes := #[TS, TS] }) (v : Value) (l : List Int) (n : Int) (hs : a.eval s = v) (hx : a.eval x = .slice (some ⟨W.heap.size, 0, none⟩) 1 1) (he : (e n).oneCell' = true) (HO : OwnX T e W base l v)
    (hbase : base ≤ W.heap.size) (hl : l.length ≤ 4294967296)
    (h : ∀ v1 w1, OwnX T e w1 base (l ++ [n]) v1 → W.grownBy w1 v.ownBlock → W.drawn ≤ w1.drawn → K (a.put o.dst v1) w1) :
    if Region.wanted o (yielded ops a.tmps) = true then Oper.wp Tryz.prog o a (W.alloc (.cells #[e n] T)) K Q else E := by
  have hw : Region.wanted o (yielded ops a.tmps) = true := by simp [Region.wanted, hgd]
  rw [if_pos hw]
  obtain ⟨v1, w1, hr, h2, h3, h4⟩ := run_append_x T TS e bytes hu z hinf hzc hby base o.type v l n he HO hbase hl
  unfold Oper.wp execOp
  simp only [ho, resolve, invoke, builtin, Sem.run_bind, Sem.run_pure, Result.andThen_ok, List.map_toArray, List.map_cons, List.map_nil, hs, hx, hr]
  exact h v1 w1 h2 h3 h4
end
theorem infoU : (Tryz.prog.info? 111).map (fun i => (i.zero, i.size, i.bytes)) = some (some (.int .u32 0), 1, 4) := by kernel_rfl
theorem infoH : (Tryz.prog.info? 154).map (fun i => (i.zero, i.size, i.bytes)) = some (some (.int .u16 0), 1, 2) := by kernel_rfl
end Go.Proofs.YtmnblgaefdahhaaGreatDoor
