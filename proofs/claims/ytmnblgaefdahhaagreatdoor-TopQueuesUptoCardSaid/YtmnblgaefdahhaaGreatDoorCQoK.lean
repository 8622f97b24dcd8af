/- order.own: values in memory of their own. -/
import Derived.Handy
import Derived.Test.YtmnblgaefdahhaaGreatDoorCQoJ
import Derived.Test.YtmnblgaefdahhaaGreatDoorCBase

set_option linter.unusedVariables false
set_option linter.unusedSimpArgs false
namespace Go.Proofs.YtmnblgaefdahhaaGreatDoor
open Go.RowKit Go.Shelf
attribute [local go_sem] lt_succ_of

/-- A row, of which the first i have items of the call's own. -/
def Mix (w : World) (g base i : Nat) (l : List V) : Prop := ∃ c1 c2, CsL w (fun b => base ≤ b ∧ b ≠ g) (l.take i) c1 ∧ CsL w (fun b => b < base) (l.drop i) c2 ∧ ∀ j u, (c1 ++ c2)[j]? = some u → w.cell? ⟨g, j, none⟩ = some u ∧ w.frozen? ⟨g, j, none⟩ = false
theorem Mix.start {w : World} {g base : Nat} {l : List V} (h : RowV w g (fun b => b < base) l) : Mix w g base 0 l := by
  obtain ⟨c, h1, h2⟩ := h
  exact ⟨[], c, rfl, h1, h2⟩
theorem Mix.below {w w' : World} {g base i : Nat} {l : List V} (h : Mix w g base i l) (hb : Below w.heap.size w w') (hg : g < w.heap.size) : Mix w' g base i l := by
  obtain ⟨c1, c2, h1, h2, h3⟩ := h
  exact ⟨c1, c2, h1.keep (Keeps.below hb), h2.keep (Keeps.below hb), fun j u hj => ⟨(World.cell?_of_block (hb.block g hg)).trans (h3 j u hj).1, (World.frozen?_of_block (hb.block g hg)).trans (h3 j u hj).2⟩⟩
theorem Mix.at {w : World} {g base i : Nat} {l : List V} (h : Mix w g base i l) (hi : i < l.length) : ∃ A cap, w.cell? ⟨g, i * 4 + 3, none⟩ = some (.slice A (itemAt l i).items.length cap) ∧ w.frozen? ⟨g, i * 4 + 3, none⟩ = false ∧ V.Bd (itemAt l i) ∧ (itemAt l i).items.length ≤ cap ∧ LA w (fun b => b < base) (itemAt l i).items A := by
  obtain ⟨c1, c2, h1, h2, h3⟩ := h
  rw [itemAt_drop hi] at h2
  obtain ⟨a, b, rfl, hx, h4⟩ := h2
  obtain ⟨hbd, A, cap, rfl, hc, hA⟩ := hx.eq
  have hl := h1.length
  rw [List.length_take, Nat.min_eq_left (Nat.le_of_lt hi)] at hl
  have h5 := h3 (i * 4 + 3) (.slice A (itemAt l i).items.length cap) (by rw [List.getElem?_append_right (by omega), hl, show i * 4 + 3 - i * 4 = 3 by omega]; rfl)
  exact ⟨A, cap, h5.1, h5.2, hbd, hc, hA⟩
theorem Mix.next {w : World} {g base i : Nat} {l : List V} (h : Mix w g base i l) (hi : i < l.length) (hgb : base ≤ g) {A : Option Addr} {cap : Nat} (hc : (itemAt l i).items.length ≤ cap) (hA : LA w (fun b => base ≤ b ∧ b ≠ g) (itemAt l i).items A) :
    Mix (w.setCell ⟨g, i * 4 + 3, none⟩ (.slice A (itemAt l i).items.length cap)) g base (i + 1) l := by
  obtain ⟨c1, c2, h1, h2, h3⟩ := h
  rw [itemAt_drop hi] at h2
  obtain ⟨a, b, rfl, hx, h4⟩ := h2
  obtain ⟨hbd, A0, cap0, rfl, hc0, hA0⟩ := hx.eq
  have hl := h1.length
  rw [List.length_take, Nat.min_eq_left (Nat.le_of_lt hi)] at hl
  have hk1 : Keeps w (fun b => base ≤ b ∧ b ≠ g) (w.setCell ⟨g, i * 4 + 3, none⟩ (.slice A (itemAt l i).items.length cap)) (fun b => base ≤ b ∧ b ≠ g) := Keeps.set (fun e => e.2 rfl) _
  have hk2 : Keeps w (fun b => b < base) (w.setCell ⟨g, i * 4 + 3, none⟩ (.slice A (itemAt l i).items.length cap)) (fun b => b < base) := Keeps.set (by show ¬ g < base; omega) _
  refine ⟨c1 ++ [.int .i64 (itemAt l i).kind, .int .i64 (itemAt l i).num, .string (itemAt l i).text, .slice A (itemAt l i).items.length cap], b, ?_, h4.keep hk2, fun j u hj => ?_⟩
  · rw [itemAt_take hi]
    exact (h1.keep hk1).snoc ((VC.mk hbd hc hA).keep hk1)
  · have hold : ∀ j u, (c1 ++ ([.int .i64 (itemAt l i).kind, .int .i64 (itemAt l i).num, .string (itemAt l i).text, .slice A0 (itemAt l i).items.length cap0] ++ b))[j]? = some u → w.cell? ⟨g, j, none⟩ = some u ∧ w.frozen? ⟨g, j, none⟩ = false := h3
    have hfr : ∀ j, (w.setCell ⟨g, i * 4 + 3, none⟩ (.slice A (itemAt l i).items.length cap)).frozen? ⟨g, j, none⟩ = w.frozen? ⟨g, j, none⟩ := fun j => World.frozen?_setCell _ _ _ _
    have h33 := (hold (i * 4 + 3) (.slice A0 (itemAt l i).items.length cap0) (by rw [List.getElem?_append_right (by omega), hl, show i * 4 + 3 - i * 4 = 3 by omega]; rfl))
    by_cases he : j = i * 4 + 3
    · subst he
      rw [List.append_assoc, List.getElem?_append_right (by omega), hl, show i * 4 + 3 - i * 4 = 3 by omega] at hj
      obtain rfl : Value.slice A (itemAt l i).items.length cap = u := by simpa using hj
      rw [hfr]
      exact ⟨World.cell?_setCell_same' _ _ _ (by rw [h33.1]; rfl), h33.2⟩
    · have hj2 : (c1 ++ ([.int .i64 (itemAt l i).kind, .int .i64 (itemAt l i).num, .string (itemAt l i).text, .slice A0 (itemAt l i).items.length cap0] ++ b))[j]? = some u := by
        rw [List.append_assoc] at hj
        rw [List.getElem?_append] at hj ⊢
        by_cases hlt : j < c1.length
        · rw [if_pos hlt] at hj ⊢; exact hj
        · rw [if_neg hlt] at hj ⊢
          rw [List.getElem?_append] at hj ⊢
          by_cases h4 : j - c1.length < 4
          · rw [if_pos (by simpa using h4)] at hj ⊢
            have : j - c1.length = 0 ∨ j - c1.length = 1 ∨ j - c1.length = 2 := by omega
            rcases this with e | e | e <;> rw [e] at hj ⊢ <;> exact hj
          · rw [if_neg (by simpa using h4)] at hj ⊢
            exact hj
      rw [hfr]
      exact ⟨(World.cell?_setCell_other (a := ⟨g, i * 4 + 3, none⟩) w ⟨g, j, none⟩ _ (by intro e; injection e with _ e; exact he e.symm)).trans (hold j u hj2).1, (hold j u hj2).2⟩
/-- The row that Clone hands back. -/
theorem OwnL.rowOr {w : World} {base : Nat} {l : List V} {v : Value} (h : OwnL w base (fun b => b < base) l v) : (l = [] ∧ v = .slice none 0 0) ∨ ∃ g cap, v = .slice (some ⟨g, 0, none⟩) l.length cap ∧ l.length ≤ cap ∧ base ≤ g ∧ g < w.heap.size ∧ RowV w g (fun b => b < base) l := by
  obtain ⟨xs, ⟨h1, h2⟩, h3⟩ := h
  rcases h2 with ⟨rfl, h2⟩ | ⟨g, cap, cur, rfl, hg, hh, hc, hm, hs, ht⟩
  · exact .inl ⟨List.length_eq_zero_iff.1 h2, rfl⟩
  · refine .inr ⟨g, cap, rfl, hc, hg, (Array.getElem?_eq_some_iff.1 hh).1, ⟨xs, h3.keep (Keeps.weak fun b hb => hb.1), fun j u hj => ?_⟩⟩
    have h5 : cur.toList[j]? = some u := by
      rw [← ht] at hj
      rw [List.getElem?_take] at hj
      split at hj
      · exact hj
      · cases hj
    refine ⟨by simp only [World.cell?, hh]; simpa using h5, free4 hh j⟩
theorem Mix.is {w : World} {g base : Nat} {l : List V} {cap : Nat} (h : Mix w g base l.length l) (hgb : base ≤ g) (hc : l.length ≤ cap) (hl : l.length ≤ 4294967296) : IsS w (fun b => base ≤ b) l (.slice (some ⟨g, 0, none⟩) l.length cap) := by
  obtain ⟨c1, c2, h1, h2, h3⟩ := h
  rw [List.take_length] at h1
  rw [List.drop_length] at h2
  obtain rfl : c2 = [] := h2
  rw [List.append_nil] at h3
  exact ⟨_, cap, rfl, hc, hl, .inr ⟨_, rfl, CsL.lc hgb (h1.keep (Keeps.weak fun b hb => hb.1)) fun j u hj => by rw [plus0, Nat.zero_add]; exact (h3 j u hj).1⟩⟩
/-- own at lists whose members are of a size. -/
def OwnAt (n : Nat) : Prop := ∀ (l : List V), V.sizes l < n → ∀ (vl : Value) (w : World) (S : Nat → Prop) (hl : IsS w S l vl),
  Calls Tryz.prog 15 #[vl] w fun e w' => ∃ v', e = .returned v' ∧ IsS w' (fun b => w.heap.size ≤ b) l v' ∧ Below w.heap.size w w'
theorem sizes_items (x : V) : V.size x = 1 + V.sizes x.items := by cases x; rfl
set_option maxRecDepth 100000 in
set_option maxHeartbeats 2000000 in
theorem own_step (n : Nat) (ih : OwnAt n) : OwnAt (n + 1) := by
  intro l hn vl w S hl
  have hll : l.length ≤ 4294967296 := by obtain ⟨A, ca, rfl, _, h, _⟩ := hl; exact h
  have HC := Lib.hid (clone_calls l vl w S hl)
  have IH := Lib.hid ih
  have HN := Lib.hid hn
  clear hl ih hn
  go_enter Tryz.func15, Tryz.ntmps15
  go_wp2_with (go_at_call 30; refine HC.out.mono ?_; rintro e w1 ⟨v1, rfl, hO, hb1⟩; have HO := Lib.hid hO.rowOr; obtain ⟨A, cap, rfl, hcap⟩ := hO.form; clear hO)
  rcases HO.out with ⟨rfl, hsl⟩ | ⟨g, cap1, hsl, hc1, hg0, hg1, hR⟩
  · obtain ⟨rfl, rfl⟩ : A = none ∧ cap = 0 := by injection hsl with h1 h2 h3; exact ⟨h1, h3⟩
    clear HO IH HN HC hsl hcap
    go_rounds 1
    go_ret
    exact ⟨_, rfl, ⟨none, 0, rfl, by simp, by simp, .inl rfl⟩, hb1⟩
  · obtain ⟨rfl, rfl⟩ : A = some ⟨g, 0, none⟩ ∧ cap = cap1 := by injection hsl with h1 h2 h3; exact ⟨h1, h3⟩
    have HG := Lib.hid hg0
    have HM := Lib.hid (Mix.start hR)
    clear HO HC hsl hR hc1 hg0
    go_loopw [9] (fun vi wr => ∃ i : Nat, vi = .int .i64 i ∧ i ≤ l.length ∧ Hid (Mix wr g w.heap.size i l) ∧ g < wr.heap.size ∧ Below w.heap.size w wr) (fun vi _ => l.length - (intOf vi).toNat)
    case atStart => exact ⟨0, rfl, Nat.zero_le _, HM, hg1, hb1⟩
    case round =>
      obtain ⟨i, rfl, hil, hm, hgl, hb⟩ := hrel
      by_cases hlt : i < l.length
      · have hz : (i : Int) < (l.length : Int) := by omega
        obtain ⟨A1, cap1, hc, hf, hbd, hcp, hLA⟩ := hm.out.at hlt
        have HK := Lib.hid (IH.out (itemAt l i).items (by have h1 := sizes_items (itemAt l i); have h2 := HN.out; have h3 := V.sizes_mem (itemAt_mem hlt); omega) _ wr _ (IsV.items hbd hcp hLA))
        have hpl := plus0 g
        have HL1 := Lib.hid hlt
        clear hLA hbd
        go_wp2_with (go_at_call 15; refine HK.out.mono ?_; rintro e w2 ⟨v2, rfl, ⟨A2, cap2, rfl, hc2, hl2, hA2⟩, hb2⟩; have HM2 := Lib.hid (Mix.next (hm.out.below hb2 hgl) HL1.out HG.out hc2 (hA2.keep (Keeps.weak fun b (h : wr.heap.size ≤ b) => ⟨Nat.le_trans hb.size h, by omega⟩))); have hc' := cellB hb2 hc; have hf' := (World.frozen?_of_block (hb2.block g hgl) (a := ⟨g, i * 4 + 3, none⟩)).trans hf; have hbr := below_then hb hb.size hb2; have hgl2 := Nat.lt_of_lt_of_le hgl hb2.size; clear hA2 hb2)
        go_roundw
        case rel => exact ⟨i + 1, by go_num, by omega, HM2, by simp; exact hgl2, hbr.setCell HG.out _⟩
        case measure => simp [intOf]; omega
      · have he : i = l.length := by omega
        have HF := Lib.hid (show IsS wr (fun b => w.heap.size ≤ b) l (.slice (some ⟨g, 0, none⟩) l.length cap) from Mix.is (he ▸ hm.out) HG.out hcap hll)
        subst he
        clear hm
        go_wp2_with fail
        go_ret
        exact ⟨_, rfl, HF.out, hb⟩
theorem own_all : ∀ n, OwnAt n
  | 0 => fun l h => absurd h (Nat.not_lt_zero _)
  | n + 1 => own_step n (own_all n)
/-- A list in memory of its own. -/
theorem oown_calls (l : List V) (vl : Value) (w : World) (S : Nat → Prop) (hl : IsS w S l vl) :
    Calls Tryz.prog 15 #[vl] w fun e w' => ∃ v', e = .returned v' ∧ IsS w' (fun b => w.heap.size ≤ b) l v' ∧ Below w.heap.size w w' := own_all _ l (Nat.lt_succ_self _) vl w S hl
end Go.Proofs.YtmnblgaefdahhaaGreatDoor
