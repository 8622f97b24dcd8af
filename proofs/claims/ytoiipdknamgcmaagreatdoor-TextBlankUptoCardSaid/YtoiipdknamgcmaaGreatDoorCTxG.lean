/- A right value as the program writes it. A value's printed form as bytes. Print and Quote. -/
import Derived.Lib.ItoaLen
import Derived.Lib.MapLaws
import Derived.Test.YtoiipdknamgcmaaGreatDoorCTxE
/- A right value as the program writes it. -/
set_option linter.unusedVariables false
set_option linter.unusedSimpArgs false
namespace Go.Proofs.YtoiipdknamgcmaaGreatDoor
open Go.RowKit Go.Shelf
attribute [local go_sem] lt_succ_of

theorem box4' (w : World) (t : TypeId) (c0 c1 c2 c3 : Value) : ∃ w1, w.alloc (.cells #[c0, c1, c2, c3] t) = w1 ∧ Below w.heap.size w w1 ∧ w.heap.size + 1 = w1.heap.size ∧ w1.heap[w.heap.size]? = some (.cells #[c0, c1, c2, c3] t (0, 0)) :=
  ⟨_, rfl, (Below.refl _ _).alloc (Nat.le_refl _) _, by simp, heap_alloc_new w _⟩
theorem prV_eq (x : V) : prV x = if x.kind = 0 then Lib.strCells ⟨#[110, 105, 108]⟩ else if x.kind = 1 then (if x.num = 1 then Lib.strCells ⟨#[116, 114, 117, 101]⟩ else Lib.strCells ⟨#[102, 97, 108, 115, 101]⟩) else if x.kind = 2 then Lib.strCells ⟨(Lib.itoa x.num).toArray⟩
    else if x.kind = 3 then [.int .u8 34] ++ escFrom x.text 0 ++ [.int .u8 34] else if x.kind = 4 then Lib.strCells ⟨#[91]⟩ ++ prL x.items true ++ [.int .u8 93] else if x.kind = 5 then Lib.strCells ⟨#[35, 123]⟩ ++ prL x.items true ++ [.int .u8 125] else Lib.strCells ⟨#[123]⟩ ++ prL x.items true ++ [.int .u8 125] := by
  cases x; rw [prV]; rfl
theorem escFrom_length (s : ByteArray) : ∀ m pos, s.size - pos < m → (escFrom s pos).length ≤ 6 * (s.size - pos) := by
  intro m
  induction m with
  | zero => intro pos h; omega
  | succ m ih =>
    intro pos h
    by_cases hp : pos < s.size
    · rw [escFrom_next hp, List.length_append]
      have h1 := escR_length (Utf8.decode s pos).1
      have h2 := Lib.decode_width_pos s pos hp
      by_cases hq : pos + (Utf8.decode s pos).2 < s.size
      · have h3 := ih (pos + (Utf8.decode s pos).2) (by omega)
        omega
      · rw [escFrom_end hq, List.length_nil]
        omega
    · rw [escFrom_end hp]
      simp
theorem itoa_small (n : Int) (h0 : -9223372036854775808 ≤ n) (h1 : n ≤ 9223372036854775807) : (Lib.strCells ⟨(Lib.itoa n).toArray⟩).length ≤ 21 := by
  rw [Lib.strCells_length]
  exact Lib.itoa_length_le n h0 h1
theorem okAll_kind {x : V} (h : okAll x = true) : 0 ≤ x.kind ∧ x.kind ≤ 6 ∧ (x.kind = 3 → x.text.size ≤ 256) := by
  rw [okAll_eq, Bool.and_eq_true] at h
  have h1 := h.1
  rw [okB, Bool.and_eq_true] at h1
  have h2 := h1.1
  unfold plainB plainK at h2
  by_cases c0 : (x.kind ≠ 3 ∧ x.text.size ≠ 0) ∨ (x.kind ≠ 2 ∧ x.kind ≠ 1 ∧ x.num ≠ 0)
  · rw [if_pos c0] at h2; cases h2
  rw [if_neg c0] at h2
  by_cases c1 : x.kind = 1
  · omega
  rw [if_neg c1] at h2
  by_cases c3 : x.kind = 3
  · rw [if_pos c3, Bool.and_eq_true] at h2
    have := of_decide_eq_true h2.1
    omega
  rw [if_neg c3] at h2
  have := of_decide_eq_true h2
  omega
set_option maxRecDepth 100000 in
set_option maxHeartbeats 8000000 in
theorem printed_step (n : Nat) (ih : PrAt n) : PrAt (n + 1) := by
  intro x hx hok vx B b bs w hX hB hBw hlen hT hB0
  obtain ⟨hbx, Ax, cx, rfl, hcx, hAx⟩ := hX.eq
  have hp := prV_eq x
  obtain ⟨K, hK⟩ : ∃ K, x.kind = K := ⟨_, rfl⟩
  rw [hK] at hp ⊢
  obtain ⟨w1, hw1, hB1, hsz, hb0⟩ := box4' w 24 (.int .i64 K) (.int .i64 x.num) (.string x.text) (.slice Ax x.items.length cx)
  obtain ⟨e0, e1, e2, e3⟩ := block4 hb0
  have hbA : IsB B b bs w1 := IsB.below hB hB1
  have hbw1 : Below B w w1 := hB1.mono hBw
  have hT1 : Pow10 w1 := tab_later tab_named hbw1 hB0 hT
  have hpos := V.size_pos x
  by_cases k0 : K = 0
  · subst k0
    rw [if_pos rfl] at hp
    have HP := Lib.hid hp
    have HW := Lib.hid (wstring_calls B b bs ⟨#[110, 105, 108]⟩ w1 hbA (by have : (⟨#[110, 105, 108]⟩ : ByteArray).size = 3 := rfl; omega) (by omega))
    clear hK hp
    go_enter Tryz.func15, Tryz.ntmps15
    go_wp2_with (go_at_call 27; refine HW.out.mono ?_; rintro e w2 ⟨rfl, hW⟩; have HW2 := Lib.hid hW; clear hW)
    go_end0
    refine ⟨⟨_, rfl⟩, by rw [HP.out]; exact HW2.out.1, hbw1.trans HW2.out.2.1, tab_later tab_named HW2.out.2.1 hB0 hT1, ?_⟩
    rw [HP.out, Lib.strCells_length, show (⟨#[110, 105, 108]⟩ : ByteArray).size = 3 from rfl]
    omega
  · have hoks : okAlls x.items = true := by have := okAll_eq x; rw [hok] at this; exact (Bool.and_eq_true _ _ ▸ this.symm).2
    have hse := size_eq x
    have hmem : ∀ y ∈ x.items, V.size y < n := fun y hy => by
      have key : ∀ (l : List V), y ∈ l → V.size y ≤ V.sizes l := by
        intro l
        induction l with
        | nil => intro h; cases h
        | cons z m ihm =>
          intro h
          simp only [V.sizes]
          rcases List.mem_cons.1 h with rfl | h
          · omega
          · have := ihm h; omega
      have := key x.items hy
      omega
    have hS1 : IsS w1 (fun k => k < B) x.items (.slice Ax x.items.length cx) := (IsV.items hbx hcx hAx).keep fun k h1 h2 => ⟨h2, hB1.block k h1⟩
    by_cases k4 : K = 4
    · subst k4
      rw [if_neg (by decide), if_neg (by decide), if_neg (by decide), if_neg (by decide), if_pos rfl] at hp
      have HP := Lib.hid hp
      have HR := Lib.hid (row_step n ih x.items hmem hoks ⟨#[91]⟩ 93 _ B b bs w1 hS1 hbA (by omega) (by decide) (by omega) hT1 hB0)
      clear hK hp
      go_enter Tryz.func15, Tryz.ntmps15
      go_wp2_with (go_at_call 31; refine HR.out.mono ?_; rintro e w2 ⟨⟨v2, rfl⟩, hb2, hb2', hl2⟩; have HB2 := Lib.hid hb2; have HL2 := Lib.hid hl2; clear hb2)
      go_end0
      refine ⟨⟨_, rfl⟩, by rw [HP.out]; exact HB2.out, hbw1.trans hb2', tab_later tab_named hb2' hB0 hT1, ?_⟩
      rw [HP.out]
      have h1 := HL2.out
      have h2 : (Lib.strCells ⟨#[91]⟩).length = 1 := by rw [Lib.strCells_length]; rfl
      simp only [List.length_append, List.length_singleton, h2]
      omega
    by_cases k5 : K = 5
    · subst k5
      rw [if_neg (by decide), if_neg (by decide), if_neg (by decide), if_neg (by decide), if_neg (by decide), if_pos rfl] at hp
      have HP := Lib.hid hp
      have HR := Lib.hid (row_step n ih x.items hmem hoks ⟨#[35, 123]⟩ 125 _ B b bs w1 hS1 hbA (by omega) (by decide) (by omega) hT1 hB0)
      clear hK hp
      go_enter Tryz.func15, Tryz.ntmps15
      go_wp2_with (go_at_call 31; refine HR.out.mono ?_; rintro e w2 ⟨⟨v2, rfl⟩, hb2, hb2', hl2⟩; have HB2 := Lib.hid hb2; have HL2 := Lib.hid hl2; clear hb2)
      go_end0
      refine ⟨⟨_, rfl⟩, by rw [HP.out]; exact HB2.out, hbw1.trans hb2', tab_later tab_named hb2' hB0 hT1, ?_⟩
      rw [HP.out]
      have h1 := HL2.out
      have h2 : (Lib.strCells ⟨#[35, 123]⟩).length = 2 := by rw [Lib.strCells_length]; rfl
      simp only [List.length_append, List.length_singleton, h2]
      omega
    by_cases k6 : K = 6
    · subst k6
      rw [if_neg (by decide), if_neg (by decide), if_neg (by decide), if_neg (by decide), if_neg (by decide), if_neg (by decide)] at hp
      have HP := Lib.hid hp
      have HR := Lib.hid (row_step n ih x.items hmem hoks ⟨#[123]⟩ 125 _ B b bs w1 hS1 hbA (by omega) (by decide) (by omega) hT1 hB0)
      clear hK hp
      go_enter Tryz.func15, Tryz.ntmps15
      go_wp2_with (go_at_call 31; refine HR.out.mono ?_; rintro e w2 ⟨⟨v2, rfl⟩, hb2, hb2', hl2⟩; have HB2 := Lib.hid hb2; have HL2 := Lib.hid hl2; clear hb2)
      go_end0
      refine ⟨⟨_, rfl⟩, by rw [HP.out]; exact HB2.out, hbw1.trans hb2', tab_later tab_named hb2' hB0 hT1, ?_⟩
      rw [HP.out]
      have h1 := HL2.out
      have h2 : (Lib.strCells ⟨#[123]⟩).length = 1 := by rw [Lib.strCells_length]; rfl
      simp only [List.length_append, List.length_singleton, h2]
      omega
    have hkk := okAll_kind hok
    rw [hK] at hkk
    by_cases k1 : K = 1
    · subst k1
      rw [if_neg (by decide), if_pos rfl] at hp
      obtain ⟨N, hN⟩ : ∃ N, x.num = N := ⟨_, rfl⟩
      rw [hN] at hp e1 hw1 ⊢
      by_cases n1 : N = 1
      · subst n1
        rw [if_pos rfl] at hp
        have HP := Lib.hid hp
        have HW := Lib.hid (wstring_calls B b bs ⟨#[116, 114, 117, 101]⟩ w1 hbA (by have : (⟨#[116, 114, 117, 101]⟩ : ByteArray).size = 4 := rfl; omega) (by omega))
        have HF := Lib.hid (bool_calls true w1)
        clear hK hp hN
        go_enter Tryz.func15, Tryz.ntmps15
        go_wp2_with (first
          | (go_at_call 28; refine HF.out.mono ?_; rintro e w2 ⟨rfl, rfl⟩)
          | (go_at_call 27; refine HW.out.mono ?_; rintro e w2 ⟨rfl, hW⟩; have HW2 := Lib.hid hW; clear hW))
        go_end0
        refine ⟨⟨_, rfl⟩, by rw [HP.out]; exact HW2.out.1, hbw1.trans HW2.out.2.1, tab_later tab_named HW2.out.2.1 hB0 hT1, ?_⟩
        rw [HP.out, Lib.strCells_length, show (⟨#[116, 114, 117, 101]⟩ : ByteArray).size = 4 from rfl]
        omega
      · have n2 : (N == 1) = false := by rw [beq_eq_false_iff_ne]; exact n1
        rw [if_neg n1] at hp
        have HP := Lib.hid hp
        have HW := Lib.hid (wstring_calls B b bs ⟨#[102, 97, 108, 115, 101]⟩ w1 hbA (by have : (⟨#[102, 97, 108, 115, 101]⟩ : ByteArray).size = 5 := rfl; omega) (by omega))
        have HF := Lib.hid (bool_calls false w1)
        clear hK hp hN
        go_enter Tryz.func15, Tryz.ntmps15
        go_wp2_with (first
          | (go_at_call 28; refine HF.out.mono ?_; rintro e w2 ⟨rfl, rfl⟩)
          | (go_at_call 27; refine HW.out.mono ?_; rintro e w2 ⟨rfl, hW⟩; have HW2 := Lib.hid hW; clear hW))
        go_end0
        refine ⟨⟨_, rfl⟩, by rw [HP.out]; exact HW2.out.1, hbw1.trans HW2.out.2.1, tab_later tab_named HW2.out.2.1 hB0 hT1, ?_⟩
        rw [HP.out, Lib.strCells_length, show (⟨#[102, 97, 108, 115, 101]⟩ : ByteArray).size = 5 from rfl]
        omega
    by_cases k2 : K = 2
    · subst k2
      rw [if_neg (by decide), if_neg (by decide), if_pos rfl] at hp
      have HP := Lib.hid hp
      have hil := itoa_small x.num hbx.n0 hbx.n1
      have HIL := Lib.hid hil
      have HF := Lib.hid (format_calls x.num w1 hbx.n0 hbx.n1 hT1)
      have hbs : bs.length ≤ 100000000 := by omega
      have HBS := Lib.hid hbs
      have hsz1 : B ≤ w1.heap.size := by omega
      clear hK hp hil hbs
      obtain ⟨ST, hST⟩ : ∃ ST, (⟨(Lib.itoa x.num).toArray⟩ : ByteArray) = ST := ⟨_, rfl⟩
      rw [hST] at HF HIL HP
      clear hST
      go_enter Tryz.func15, Tryz.ntmps15
      go_wp2_with (first
        | (go_at_call 29; refine HF.out.mono ?_; rintro e w2 ⟨rfl, hb2⟩; have hbA2 := IsB.below hbA hb2; have hB2 := hb2.mono hsz1; have hs2 := Nat.le_trans hsz1 hb2.size; have HW := Lib.hid (wstring_calls B b bs ST w2 hbA2 (by have h1 := HIL.out; have h2 := HBS.out; rw [Lib.strCells_length] at h1; omega) hs2); clear hbA2)
        | (go_at_call 27; refine HW.out.mono ?_; rintro e w3 ⟨rfl, hW⟩; have HW2 := Lib.hid hW; clear hW))
      go_end0
      have hb3 := hB2.trans HW2.out.2.1
      refine ⟨⟨_, rfl⟩, by rw [HP.out]; exact HW2.out.1, hbw1.trans hb3, tab_later tab_named hb3 hB0 hT1, ?_⟩
      rw [HP.out]
      have := HIL.out
      omega
    have k3 : K = 3 := by omega
    subst k3
    rw [if_neg (by decide), if_neg (by decide), if_neg (by decide), if_pos rfl] at hp
    have HP := Lib.hid hp
    have ht := hkk.2.2 rfl
    have hel := escFrom_length x.text (x.text.size + 1) 0 (by omega)
    have HEL := Lib.hid hel
    have HT3 := Lib.hid ht
    have HQ := Lib.hid (quoted_calls B b bs x.text w1 hbA ht (by omega) (by omega))
    clear hK hp hel hkk
    go_enter Tryz.func15, Tryz.ntmps15
    go_wp2_with (go_at_call 30; refine HQ.out.mono ?_; rintro e w2 ⟨⟨v2, rfl⟩, hb2, hb2'⟩; have HB2 := Lib.hid hb2; clear hb2)
    go_end0
    refine ⟨⟨_, rfl⟩, ?_, hbw1.trans hb2', tab_later tab_named hb2' hB0 hT1, ?_⟩
    · rw [HP.out]
      have h5 := HB2.out
      simpa [Bld, List.append_assoc] using h5
    · rw [HP.out]
      have h1 := HEL.out
      have h2 := HT3.out
      simp only [List.length_append, List.length_singleton]
      omega
end Go.Proofs.YtoiipdknamgcmaaGreatDoor

/- A value's printed form as bytes. -/
set_option linter.unusedVariables false
set_option linter.unusedSimpArgs false
namespace Go.Proofs.YtoiipdknamgcmaaGreatDoor
open Go.RowKit Go.Shelf

theorem printed_all : ∀ n, PrAt n
  | 0 => fun x hx => absurd hx (by omega)
  | n + 1 => printed_step n (printed_all n)
def hexY (k : UInt8) : UInt8 := if k < 10 then 48 + k else 87 + k
/-- What stands for a byte in quotes. -/
def escY (c : UInt8) : List UInt8 :=
  if c = 34 ∨ c = 92 then [92, c]
  else if c = 10 then [92, 110]
  else if c = 9 then [92, 116]
  else if c = 13 then [92, 114]
  else if c < 32 ∨ c = 127 then [92, 117, 48, 48, hexY (c / 16), hexY (c % 16)]
  else [c]
def escB (l : List UInt8) : List UInt8 := l.flatMap escY
theorem escY_high {c : UInt8} (h : 128 ≤ c.toNat) : escY c = [c] := by
  have hh : 128 ≤ c := h
  unfold escY
  have h1 : ¬ (c = 34 ∨ c = 92) := by rintro (rfl | rfl) <;> revert hh <;> decide
  have h2 : ¬ c = 10 := by rintro rfl; revert hh; decide
  have h3 : ¬ c = 9 := by rintro rfl; revert hh; decide
  have h4 : ¬ c = 13 := by rintro rfl; revert hh; decide
  have h5 : ¬ (c < 32 ∨ c = 127) := by
    rintro (h | rfl)
    · have : c.toNat < 32 := h
      omega
    · revert hh; decide
  rw [if_neg h1, if_neg h2, if_neg h3, if_neg h4, if_neg h5]
theorem escB_high {l : List UInt8} (h : ∀ c ∈ l, 128 ≤ c.toNat) : escB l = l := by
  induction l with
  | nil => rfl
  | cons c l ih =>
    show escY c ++ escB l = c :: l
    rw [escY_high (h c (by simp)), ih fun d hd => h d (by simp [hd])]
    rfl
theorem rune_high {r : Int} (h : 128 ≤ r) : ∀ c ∈ Lib.encodeRune r, 128 ≤ c.toNat := by
  have key : ∀ x ∈ Lib.encodeRuneZ r, 128 ≤ x ∧ x < 256 := by
    intro x hx
    unfold Lib.encodeRuneZ at hx
    split at hx
    · omega
    · split at hx
      · simp at hx; omega
      · split at hx
        · simp at hx; omega
        · split at hx
          · simp at hx; omega
          · simp at hx; omega
  intro c hc
  unfold Lib.encodeRune at hc
  obtain ⟨x, hx, rfl⟩ := List.mem_map.1 hc
  have := key x hx
  rw [show (x.toNat.toUInt8).toNat = x.toNat % 256 from by simp]
  omega
set_option maxRecDepth 100000 in
theorem low_facts : ∀ i : Fin 128, (Lib.encodeRune (i.val : Int) = [UInt8.ofNat i.val]) ∧ (UInt8.ofNat i.val).toNat = i.val ∧ hexI ((i.val : Int) / 16) = ((hexY (UInt8.ofNat i.val / 16)).toNat : Int) ∧ hexI ((i.val : Int) % 16) = ((hexY (UInt8.ofNat i.val % 16)).toNat : Int)
    ∧ (((i.val : Int) = 34 ∨ (i.val : Int) = 92) ↔ (UInt8.ofNat i.val = 34 ∨ UInt8.ofNat i.val = 92)) ∧ ((i.val : Int) = 10 ↔ UInt8.ofNat i.val = 10) ∧ ((i.val : Int) = 9 ↔ UInt8.ofNat i.val = 9) ∧ ((i.val : Int) = 13 ↔ UInt8.ofNat i.val = 13) ∧ (((i.val : Int) < 32 ∨ (i.val : Int) = 127) ↔ (UInt8.ofNat i.val < 32 ∨ UInt8.ofNat i.val = 127)) := by decide
theorem escR_low (i : Fin 128) : (Lib.encodeRune (i.val : Int) = [UInt8.ofNat i.val]) ∧ escR (i.val : Int) = Lib.byteCells (escY (UInt8.ofNat i.val)) := by
  obtain ⟨h1, h2, h3, h4, c1, c2, c3, c4, c5⟩ := low_facts i
  refine ⟨h1, ?_⟩
  have hr : Lib.runeCells (i.val : Int) = Lib.byteCells [UInt8.ofNat i.val] := by rw [← Lib.byteCells_encodeRune, h1]
  unfold escR escY
  by_cases d1 : UInt8.ofNat i.val = 34 ∨ UInt8.ofNat i.val = 92
  · rw [if_pos d1, if_pos (c1.2 d1), hr]; rfl
  rw [if_neg d1, if_neg (fun h => d1 (c1.1 h))]
  by_cases d2 : UInt8.ofNat i.val = 10
  · rw [if_pos d2, if_pos (c2.2 d2)]; rfl
  rw [if_neg d2, if_neg (fun h => d2 (c2.1 h))]
  by_cases d3 : UInt8.ofNat i.val = 9
  · rw [if_pos d3, if_pos (c3.2 d3)]; rfl
  rw [if_neg d3, if_neg (fun h => d3 (c3.1 h))]
  by_cases d4 : UInt8.ofNat i.val = 13
  · rw [if_pos d4, if_pos (c4.2 d4)]; rfl
  rw [if_neg d4, if_neg (fun h => d4 (c4.1 h))]
  by_cases d5 : UInt8.ofNat i.val < 32 ∨ UInt8.ofNat i.val = 127
  · rw [if_pos d5, if_pos (c5.2 d5), h3, h4]; rfl
  rw [if_neg d5, if_neg (fun h => d5 (c5.1 h)), hr]
theorem escR_bytes (r : Nat) : escR (r : Int) = Lib.byteCells (escB (Lib.encodeRune (r : Int))) := by
  by_cases h : r < 128
  · obtain ⟨h1, h2⟩ := escR_low ⟨r, h⟩
    simp only at h1 h2
    rw [h1, h2]
    show _ = Lib.byteCells (escY _ ++ [])
    rw [List.append_nil]
  · rw [escB_high (rune_high (by omega)), Lib.byteCells_encodeRune]
    unfold escR
    rw [if_neg (by omega), if_neg (by omega), if_neg (by omega), if_neg (by omega), if_neg (by omega)]
theorem escB_append (a b : List UInt8) : escB (a ++ b) = escB a ++ escB b := by simp [escB]
theorem utfFrom_step {s : ByteArray} {pos : Nat} (h : pos < s.size) (hu : utfFrom s pos = true) : Lib.encodeRune ((Utf8.decode s pos).1 : Int) ++ s.data.toList.drop (pos + (Utf8.decode s pos).2) = s.data.toList.drop pos ∧ utfFrom s (pos + (Utf8.decode s pos).2) = true := by
  have hb : Utf8.decode s pos ≠ (65533, 1) := fun hb => by rw [utfFrom_bad h hb] at hu; cases hu
  refine ⟨?_, by rw [← utfFrom_good h hb]; exact hu⟩
  have hl : s.data.toList.length = s.size := rfl
  have hne : s.data.toList.drop pos ≠ [] := by
    intro e
    have := congrArg List.length e
    rw [List.length_drop, List.length_nil] at this
    omega
  have h1 := Lib.encode_decode (s.data.toList.drop pos) hne
  rw [Lib.decodeL_drop] at h1
  rw [h1 (fun ⟨a, b⟩ => hb (Prod.ext a b)), ← List.drop_drop, List.take_append_drop]
theorem escFrom_bytes (s : ByteArray) : ∀ m pos, s.size - pos < m → utfFrom s pos = true → escFrom s pos = Lib.byteCells (escB (s.data.toList.drop pos)) := by
  intro m
  induction m with
  | zero => intro pos h; omega
  | succ m ih =>
    intro pos h hu
    by_cases hp : pos < s.size
    · obtain ⟨h1, h2⟩ := utfFrom_step hp hu
      have hw := Lib.decode_width_pos s pos hp
      rw [escFrom_next hp, ih _ (by omega) h2, escR_bytes, ← Lib.byteCells_append, ← escB_append, h1]
    · rw [escFrom_end hp, List.drop_eq_nil_of_le (by have hl : s.data.toList.length = s.size := rfl; omega)]
      rfl
mutual
/-- A value's printed form. -/
def prB : V → List UInt8
  | .mk k n t l => if k = 0 then [110, 105, 108] else if k = 1 then (if n = 1 then [116, 114, 117, 101] else [102, 97, 108, 115, 101]) else if k = 2 then Lib.itoa n
    else if k = 3 then [34] ++ escB t.data.toList ++ [34] else if k = 4 then [91] ++ prLB l true ++ [93] else if k = 5 then [35, 123] ++ prLB l true ++ [125] else [123] ++ prLB l true ++ [125]
/-- Items with a blank between. -/
def prLB : List V → Bool → List UInt8
  | [], _ => []
  | x :: xs, first => (if first = true then [] else [32]) ++ prB x ++ prLB xs false
end
theorem okAll_utf {x : V} (h : okAll x = true) (hk : x.kind = 3) : utfFrom x.text 0 = true := by
  rw [okAll_eq, Bool.and_eq_true] at h
  have h1 := h.1
  rw [okB, Bool.and_eq_true] at h1
  have h2 := h1.1
  unfold plainB plainK at h2
  rw [hk] at h2
  by_cases c0 : ((3 : Int) ≠ 3 ∧ x.text.size ≠ 0) ∨ ((3 : Int) ≠ 2 ∧ (3 : Int) ≠ 1 ∧ x.num ≠ 0)
  · rw [if_pos c0] at h2; cases h2
  rw [if_neg c0, if_neg (by decide), if_pos rfl, Bool.and_eq_true] at h2
  exact h2.2
mutual
theorem prV_bytes : ∀ x : V, okAll x = true → prV x = Lib.byteCells (prB x)
  | .mk k n t l, h => by
    have hl : prL l true = Lib.byteCells (prLB l true) := prL_bytes l true (by rw [okAll, Bool.and_eq_true] at h; exact h.2)
    have ht : k = 3 → escFrom t 0 = Lib.byteCells (escB t.data.toList) := fun hk => by
      have := escFrom_bytes t (t.size + 1) 0 (by omega) (okAll_utf h hk)
      rwa [List.drop_zero] at this
    rw [prV, prB]
    by_cases k0 : k = 0
    · rw [if_pos k0, if_pos k0]; rfl
    rw [if_neg k0, if_neg k0]
    by_cases k1 : k = 1
    · rw [if_pos k1, if_pos k1]
      split <;> rfl
    rw [if_neg k1, if_neg k1]
    by_cases k2 : k = 2
    · rw [if_pos k2, if_pos k2]; rfl
    rw [if_neg k2, if_neg k2]
    by_cases k3 : k = 3
    · rw [if_pos k3, if_pos k3, ht k3, Lib.byteCells_append, Lib.byteCells_append]; rfl
    rw [if_neg k3, if_neg k3]
    by_cases k4 : k = 4
    · rw [if_pos k4, if_pos k4, hl, Lib.byteCells_append, Lib.byteCells_append]; rfl
    rw [if_neg k4, if_neg k4]
    by_cases k5 : k = 5
    · rw [if_pos k5, if_pos k5, hl, Lib.byteCells_append, Lib.byteCells_append]; rfl
    rw [if_neg k5, if_neg k5, hl, Lib.byteCells_append, Lib.byteCells_append]; rfl
theorem prL_bytes : ∀ (l : List V) (f : Bool), okAlls l = true → prL l f = Lib.byteCells (prLB l f)
  | [], _, _ => by rw [prL, prLB]; rfl
  | x :: xs, f, h => by
    rw [okAlls, Bool.and_eq_true] at h
    rw [prL, prLB, prV_bytes x h.1, prL_bytes xs false h.2, Lib.byteCells_append, Lib.byteCells_append]
    cases f <;> rfl
end
end Go.Proofs.YtoiipdknamgcmaaGreatDoor

/- Print and Quote. -/
set_option linter.unusedVariables false
set_option linter.unusedSimpArgs false
namespace Go.Proofs.YtoiipdknamgcmaaGreatDoor
open Go.RowKit Go.Shelf
attribute [local go_sem] lt_succ_of

theorem isB_new (w : World) : ∃ w1, w.alloc (.cells #[.pointer none, .slice none 0 0] 43) = w1 ∧ Below w.heap.size w w1 ∧ w.heap.size + 1 = w1.heap.size ∧ IsB w.heap.size w.heap.size [] w1 :=
  ⟨_, rfl, (Below.refl _ _).alloc (Nat.le_refl _) _, by simp, .inl ⟨Nat.le_refl _, _, heap_alloc_new w _, ⟨rfl, .inl ⟨rfl, rfl⟩⟩, by simp [Value.ownBlock]⟩⟩
/-- What Print says. -/
def printS (x : V) : ByteArray := if rightB x = true then ⟨(prB x).toArray⟩ else ⟨#[]⟩
def printE (x : V) : Int := if rightB x = true then 0 else 3
set_option maxRecDepth 100000 in
set_option maxHeartbeats 4000000 in
theorem print_calls (x : V) (vx : Value) (S : Nat → Prop) (w : World) (hX : IsV w S x vx) (hT : Lib.Utf8Tabs 1 2 w) (hP : Pow10 w) (hw : 0 < w.heap.size) :
    Calls Tryz.prog 7 #[vx] w fun e w' => e = .returned (.tuple #[.string (printS x), .int .i64 (printE x)]) ∧ Below w.heap.size w w' := by
  obtain ⟨hbx, A, ca, rfl, hca, hA⟩ := hX.eq
  obtain ⟨w1, hw1, hB1, hsz, hb0⟩ := box4' w 24 (.int .i64 x.kind) (.int .i64 x.num) (.string x.text) (.slice A x.items.length ca)
  obtain ⟨a0, a1, a2, a3⟩ := block4 hb0
  have hX1 := hX.below hB1
  have HC := Lib.hid (check_calls x _ w1 S hX1 (tabs_below hT hB1))
  have HP1 := Lib.hid (tab_later tab_named hB1 hw hP)
  have HX1 := Lib.hid hX1
  have hw1' : 0 < w1.heap.size := by omega
  cases hr : rightB x with
  | true =>
    rw [show printS x = ⟨(prB x).toArray⟩ from if_pos hr, show printE x = 0 from if_pos hr]
    rw [hr, if_pos rfl] at HC
    have hok : okIn x 16 1024 := of_decide_eq_true hr
    have HN := Lib.hid (printed_all (V.size x + 1) x (Nat.lt_succ_self _) hok.1)
    have HB := Lib.hid (prV_bytes x hok.1)
    have hsm : V.size x ≤ 1024 := by have := hok.2.2; omega
    clear hok hr hX hX1 hT hP hA
    go_enter Tryz.func7, Tryz.ntmps7
    go_wp2_with (first
      | (go_at_call 14; refine HC.out.mono ?_; rintro e w2 ⟨rfl, hb2⟩; have hb02 := below_then hB1 (by omega) hb2; have hk2 := blockB hb2 hb0; obtain ⟨w3, hw3, hB3, hs3, hI3⟩ := isB_new w2; obtain ⟨c0, c1, c2, c3⟩ := block4 (blockB hB3 hk2); have hP3 := tab_later tab_named (hb2.trans (hB3.mono hb2.size)) hw1' HP1.out; have hX3 := (HX1.out.below hb2).keep (w' := w3) (S' := fun k => k < w2.heap.size) (fun k h1 h2 => ⟨h1, hB3.block k h1⟩); have HN3 := Lib.hid (HN.out _ w2.heap.size w2.heap.size [] w3 hX3 hI3 (by omega) (by simp; omega) hP3 (Nat.lt_of_lt_of_le hw1' hb2.size)); clear hX3 hP3 hI3 hk2)
      | (go_at_call 15; refine HN3.out.mono ?_; rintro e w4 ⟨⟨v4, rfl⟩, hB4, hb4, _, _⟩; rw [HB.out, List.nil_append] at hB4; have HS := Lib.hid (Tryz.Builder_String_any_k w2.heap.size w2.heap.size (prB x) w4 (.inr hB4) (Nat.le_trans (Nat.le_of_lt (by omega)) hb4.size)); have hb5 := hb02.trans ((hB3.trans hb4).mono hb02.size); clear hB4 HN3)
      | (go_at_call 16; refine HS.out.mono ?_; rintro e w5 ⟨rfl, hI5, hb6, _⟩; have hb7 := hb5.trans (hb6.mono hb02.size); clear hI5))
    go_ret2
    exact ⟨rfl, hb7⟩
  | false =>
    rw [show printS x = ⟨#[]⟩ from if_neg (by rw [hr]; decide), show printE x = 3 from if_neg (by rw [hr]; decide)]
    rw [hr, if_neg (by decide)] at HC
    clear hr hX hX1 hT hP hA
    go_enter Tryz.func7, Tryz.ntmps7
    go_wp2_with (go_at_call 14; refine HC.out.mono ?_; rintro e w2 ⟨rfl, hb2⟩; have hb02 := below_then hB1 (by omega) hb2)
    go_ret2
    exact ⟨rfl, hb02⟩
/-- A text as a value. -/
def strV (s : ByteArray) : V := .mk 3 0 s []
theorem strV_is (s : ByteArray) (hs : s.size ≤ 140737488355328) (w : World) (S : Nat → Prop) : IsV w S (strV s) (.agg #[.int .i64 3, .int .i64 0, .string s, .slice none 0 0]) :=
  IsV.mk (x := strV s) (A := none) (cap := 0) ⟨show (-9223372036854775808 : Int) ≤ 3 by decide, show (3 : Int) ≤ 9223372036854775807 by decide, show (-9223372036854775808 : Int) ≤ 0 by decide, show (0 : Int) ≤ 9223372036854775807 by decide, hs, show 0 ≤ 4294967296 by decide⟩ (Nat.le_refl _) (.inl rfl)
set_option maxRecDepth 100000 in
set_option maxHeartbeats 4000000 in
theorem quote_calls (s : ByteArray) (hs : s.size ≤ 140737488355328) (w : World) (hT : Lib.Utf8Tabs 1 2 w) (hP : Pow10 w) (hw : 0 < w.heap.size) :
    Calls Tryz.prog 9 #[.string s] w fun e w' => e = .returned (.tuple #[.string (printS (strV s)), .int .i64 (printE (strV s))]) ∧ Below w.heap.size w w' := by
  have HP := Lib.hid (print_calls (strV s) _ (fun _ => True) w (strV_is s hs w _) hT hP hw)
  clear hT hP
  go_enter Tryz.func9, Tryz.ntmps9
  go_wp2_with (go_at_call 7; refine HP.out.mono ?_; rintro e w2 ⟨rfl, hb2⟩)
  go_ret2
  exact ⟨rfl, hb2⟩
end Go.Proofs.YtoiipdknamgcmaaGreatDoor
