/- A value in memory of its own, as pairing.own makes it. -/
import Derived.Test.YtmnblgaefdahhaaGreatDoorCBase

set_option linter.unusedVariables false
set_option linter.unusedSimpArgs false
namespace Go.Proofs.YtmnblgaefdahhaaGreatDoor
open Go.RowKit
attribute [local go_sem] lt_succ_of

def OwnQ (n : Nat) : Prop := ∀ (x : V), V.size x < n → ∀ (vx : Value) (w : World) (S : Nat → Prop) (hx : IsV w S x vx),
    Calls Tryz.prog 27 #[vx] w fun e w' => ∃ v, e = .returned v ∧ IsV w' (fun b => w.heap.size ≤ b) x v ∧ Below w.heap.size w w'
theorem empty_is {x : V} (hb : V.Bd x) (h : x.items = []) (w : World) (S : Nat → Prop) : IsV w S x (.agg #[.int .i64 x.kind, .int .i64 x.num, .string x.text, .slice none 0 0]) := by
  have h9 := IsV.mk (w := w) (S := S) (x := x) (A := none) (cap := 0) hb (by rw [h]; simp) (.inl h)
  rw [h] at h9
  exact h9
set_option maxHeartbeats 4000000 in
set_option maxRecDepth 100000 in
theorem ownq_step (n : Nat) (ih : OwnQ n) : OwnQ (n + 1) := by
  intro x hn vx w S hx
  obtain ⟨hbx, A, ca, rfl, hca, hA⟩ := hx.eq
  obtain ⟨l, hl⟩ : ∃ l, x.items = l := ⟨_, rfl⟩
  have IH := Lib.hid ih
  have HN : Hid (∀ y ∈ l, V.size y < n) := Lib.hid fun y hy => by have := V.size_items (hl ▸ hy); omega
  have hla : l.length ≤ 4294967296 := by rw [← hl]; exact hbx.l1
  have HXE := Lib.hid (V.eta x)
  rw [hl] at hca hA ⊢
  obtain ⟨w1, hw1, hB1, hsz, hb0, hb1⟩ := boxes2 w (.int .i64 x.kind) (.int .i64 x.num) (.string x.text) (.slice A l.length ca) (.int .i64 0) (.int .i64 0) (.string ⟨#[]⟩) (.slice none 0 0) 39
  obtain ⟨a0, a1, a2, a3⟩ := block4 hb0
  obtain ⟨e0, e1, e2, e3⟩ := block4 hb1
  have HB0 := Lib.hid hb0
  have HB1 := Lib.hid hb1
  have fa := free4 hb0
  have fe := free4 hb1
  have HL := Lib.hid hl
  have HBX := Lib.hid hbx
  clear hb0 hb1 ih hn hx hl
  by_cases h0 : l.length = 0
  · obtain rfl : l = [] := List.eq_nil_of_length_eq_zero h0
    clear IH HN hA
    simp only [List.length_nil] at hw1 a3 ⊢
    go_enter Tryz.func27, Tryz.ntmps27
    go_wp2_with fail
    refine bodyPost_ret (v := .agg #[.int .i64 x.kind, .int .i64 x.num, .string x.text, .slice none 0 0]) (by simp [results, Tryz.results27, go_sem, e0, e1, e2, e3]) rfl ⟨_, rfl, ?_, ?_⟩
    · exact empty_is HBX.out HL.out _ _
    · repeat refine Below.setCell ?_ (by simp) _
      exact hB1
  · have h1 : ((l.length : Int) == 0) = false := by simpa using h0
    have hmk := make_run l.length hla
    obtain ⟨w2, hw2, hB2, hs2, hb2⟩ : ∃ w2, w1.alloc (.cells (zs l.length).toArray 39) = w2 ∧ Below w1.heap.size w1 w2 ∧ w1.heap.size < w2.heap.size ∧ w2.heap[w1.heap.size]? = some (.cells (zs l.length).toArray 39 (0, 0)) :=
      ⟨_, rfl, (Below.refl _ _).alloc (Nat.le_refl _) _, by simp, heap_alloc_new w1 _⟩
    have a0' := cellB hB2 a0
    have a1' := cellB hB2 a1
    have a2' := cellB hB2 a2
    have a3' := cellB hB2 a3
    have la' := World.block_lt_of_cell? w2 _ a3'
    go_enter Tryz.func27, Tryz.ntmps27
    go_wp2_with fail
    have hw2 := Lib.hid hw2
    have H0 := Lib.hid h0
    clear h0 h1 hmk a0 a1 a2 a3 a0' a1' a2' a3' la' e0 e1 e2 e3 fa fe
    go_loopw [19] (fun v wr => ∃ (i : Nat) (p q : List Value), v = .int .i64 i ∧ i ≤ l.length ∧ Hid (wr.heap[w1.heap.size]? = some (.cells (p ++ q).toArray 39 (0, 0))) ∧ Hid (CsL wr (fun b => w1.heap.size < b) (l.take i) p) ∧ Hid (p.length = i * 4) ∧ Hid (q.length = (l.length - i) * 4) ∧ Below w1.heap.size w1 wr) (fun v _ => l.length - (intOf v).toNat)
    case atStart => exact ⟨0, [], zs l.length, rfl, by omega, Lib.hid (by simpa using hb2), Lib.hid (by rw [List.take_zero]; rfl), Lib.hid rfl, Lib.hid (by rw [zs_length]; omega), hB2⟩
    case round =>
      obtain ⟨i, p, q, rfl, hi, hblk, hcs, hp, hq, hf⟩ := hrel
      have hA' := (hA.below hB1).below hf
      by_cases hlt : i < l.length
      · obtain ⟨ad, A1, cap1, rfl, hla', hbd, f0, f1, f2, f3, hcap, hLA⟩ := hA'.at i hlt
        have hX := IsV.mk hbd hcap hLA
        have HK := Lib.hid fun (w' : World) (hb' : Below wr.heap.size wr w') => IH.out _ (HN.out _ (itemAt_mem hlt)) _ w' S (hX.below hb')
        obtain ⟨a, b, c, d, r, rfl, hr⟩ := split4 hq.out (by omega)
        have hpl := plus0 w1.heap.size
        clear hA hX hLA hA'
        go_wp2_with (go_at_call 27; refine (HK.out _ ((Below.refl _ _).alloc (Nat.le_refl _) _)).mono ?_; rintro e w3 ⟨v, rfl, hv, hb3⟩; obtain ⟨hbv, A2, cap2, rfl, hc2, hLA2⟩ := hv.eq; have hb4 := below_then ((Below.refl _ _).alloc (Nat.le_refl _) _) (by simp) hb3; have hk3 := Lib.hid (blockB hb4 hblk.out); obtain ⟨g0, g1, g2, g3⟩ := cells4 hk3.out hp.out; have hfz := free4 hk3.out; have HLA2 := Lib.hid hLA2; clear hv hLA2)
        go_roundw
        case rel =>
          have hsz' := hf.size
          refine ⟨i + 1, p ++ [.int .i64 (itemAt l i).kind, .int .i64 (itemAt l i).num, .string (itemAt l i).text, .slice A2 (itemAt l i).items.length cap2], r, by go_num, by omega, Lib.hid ?_, Lib.hid ?_, Lib.hid ?_, Lib.hid ?_, ?_⟩
          · have := block4set hk3.out hp.out (.int .i64 (itemAt l i).kind) (.int .i64 (itemAt l i).num) (.string (itemAt l i).text) (.slice A2 (itemAt l i).items.length cap2)
            simpa using this
          · rw [itemAt_take hlt]
            have hns : ∀ j, ¬ (fun b => w1.heap.size < b) (⟨w1.heap.size, j, none⟩ : Addr).block := fun j h => absurd h (Nat.lt_irrefl _)
            have hK : Keeps w3 (fun b => w1.heap.size < b) _ _ := (((Keeps.set (hns (i * 4)) (.int .i64 (itemAt l i).kind)).trans (Keeps.set (hns (i * 4 + 1)) (.int .i64 (itemAt l i).num))).trans (Keeps.set (hns (i * 4 + 2)) (.string (itemAt l i).text))).trans (Keeps.set (hns (i * 4 + 3)) (.slice A2 (itemAt l i).items.length cap2))
            have hgr := (Array.getElem?_eq_some_iff.1 hblk.out).1
            refine CsL.snoc ((hcs.out.keep (Keeps.below hb4)).keep hK) ?_
            exact VC.mk hbv hc2 (HLA2.out.keep ((Keeps.weak fun b (h : (wr.alloc _).heap.size ≤ b) => show w1.heap.size < b by rw [World.size_alloc] at h; omega).trans hK))
          · simp [hp.out]; omega
          · rw [hr]
            congr 1
          · exact ((((below_then hf hf.size hb4).setCell (Nat.le_refl _) _).setCell (Nat.le_refl _) _).setCell (Nat.le_refl _) _).setCell (Nat.le_refl _) _
        case measure => simp [intOf]; omega
      · have he : i = l.length := by omega
        subst he
        have H : LA wr (fun b => w1.heap.size ≤ b) l (some ⟨w1.heap.size, 0, none⟩) := by
          have h1 := hcs.out.keep (Keeps.weak (S' := fun b => w1.heap.size ≤ b) fun b h => Nat.le_of_lt h)
          rw [List.take_length] at h1
          exact h1.la_more hblk.out (Nat.le_refl _)
        have H := Lib.hid H
        have hka := blockB hf HB0.out
        have hke := blockB hf HB1.out
        obtain ⟨a0, a1, a2, a3⟩ := block4 hka
        obtain ⟨e0, e1, e2, e3⟩ := block4 hke
        have fa := free4 hka
        have fe := free4 hke
        have la := World.block_lt_of_cell? wr _ a0
        have le := World.block_lt_of_cell? wr _ e0
        clear hka hke hA hA'
        go_wp2_with fail
        refine bodyPost_ret (v := .agg #[.int .i64 x.kind, .int .i64 x.num, .string x.text, .slice (some ⟨w1.heap.size, 0, none⟩) l.length l.length]) (by simp [results, Tryz.results27, go_sem, e0, e1, e2, e3]) rfl ⟨_, rfl, ?_, ?_⟩
        · have hn : ∀ b, b < w1.heap.size → ¬ (fun b => w1.heap.size ≤ b) b := fun b h (h' : w1.heap.size ≤ b) => by omega
          have hl := HL.out
          subst hl
          refine IsV.mk HBX.out (Nat.le_refl _) ((LA.keep (S := fun b => w1.heap.size ≤ b) (S' := fun b => w1.heap.size ≤ b) ?_ H.out).keep (Keeps.weak fun b (h : w1.heap.size ≤ b) => show w.heap.size ≤ b by omega))
          repeat refine Keeps.set_after ?_ (hn _ (by simp; omega)) _
          exact Keeps.refl _ _
        · repeat refine Below.setCell ?_ (by simp) _
          exact below_then hB1 hB1.size hf
theorem ownq_all : ∀ n, OwnQ n
  | 0 => fun x h => absurd h (Nat.not_lt_zero _)
  | n + 1 => ownq_step n (ownq_all n)
/-- A value in memory of its own. -/
theorem ownq_calls (x : V) (vx : Value) (w : World) (S : Nat → Prop) (hx : IsV w S x vx) :
    Calls Tryz.prog 27 #[vx] w fun e w' => ∃ v, e = .returned v ∧ IsV w' (fun b => w.heap.size ≤ b) x v ∧ Below w.heap.size w w' := ownq_all _ x (Nat.lt_succ_self _) vx w S hx
end Go.Proofs.YtmnblgaefdahhaaGreatDoor
