/- Numbers as values; lists as values. -/
import Derived.Test.YtaeldfnihocljaaDoorApp
import Derived.Test.YtaeldfnihocljaaDoorValH
set_option linter.unusedVariables false
set_option linter.unusedSimpArgs false
namespace Go.Proofs.YtaeldfnihocljaaDoor
open Go.RowKit Go.Shelf
attribute [local go_sem] lt_succ_of

/-- A number as a value. -/
def V.int (n : Int) : V := .mk 2 n ⟨#[]⟩ []
def V.list (l : List V) : V := .mk 4 0 ⟨#[]⟩ l
theorem int_bd {n : Int} (h0 : -9223372036854775808 ≤ n) (h1 : n ≤ 9223372036854775807) : V.Bd (V.int n) := ⟨by simp [V.int, V.kind], by simp [V.int, V.kind], h0, h1, Nat.zero_le _, by simp [V.int, V.items]⟩
theorem zero_bd : V.Bd V.zero := ⟨by simp [V.zero, V.kind], by simp [V.zero, V.kind], by simp [V.zero, V.num], by simp [V.zero, V.num], Nat.zero_le _, by simp [V.zero, V.items]⟩
theorem int_vc (w : World) (S : Nat → Prop) {n : Int} (h0 : -9223372036854775808 ≤ n) (h1 : n ≤ 9223372036854775807) : VC w S (V.int n) [.int .i64 2, .int .i64 n, .string ⟨#[]⟩, .slice none 0 0] :=
  VC.mk (x := V.int n) (cap := 0) (A := none) (int_bd h0 h1) (by simp [V.int, V.items]) (.inl rfl)
theorem int_is (w : World) (S : Nat → Prop) {n : Int} (h0 : -9223372036854775808 ≤ n) (h1 : n ≤ 9223372036854775807) : IsV w S (V.int n) (.agg #[.int .i64 2, .int .i64 n, .string ⟨#[]⟩, .slice none 0 0]) :=
  IsV.mk (x := V.int n) (cap := 0) (A := none) (int_bd h0 h1) (by simp [V.int, V.items]) (.inl rfl)
theorem zero_is (w : World) (S : Nat → Prop) : IsV w S V.zero (.agg #[.int .i64 0, .int .i64 0, .string ⟨#[]⟩, .slice none 0 0]) :=
  IsV.mk (x := V.zero) (cap := 0) (A := none) zero_bd (by simp [V.zero, V.items]) (.inl rfl)
theorem int_calls (n : Int) (w : World) : Calls Tryd.prog 47 #[.int .i64 n] w fun e w' => e = .returned (.agg #[.int .i64 2, .int .i64 n, .string ⟨#[]⟩, .slice none 0 0]) ∧ Below w.heap.size w w' := by
  go_enter Tryd.func47, Tryd.ntmps47
  go_wp2_with fail
  refine bodyPost_ret (v := .agg #[.int .i64 2, .int .i64 n, .string ⟨#[]⟩, .slice none 0 0]) (by simp [results, Tryd.results47, go_sem]) rfl ⟨rfl, ?_⟩
  exact (Below.refl _ _).alloc (Nat.le_refl _) _

/-- A slice of numbers. -/
def IsI (w : World) (ns : List Int) (v : Value) : Prop := ∃ A cap, v = .slice A ns.length cap ∧ ns.length ≤ cap ∧ ns.length ≤ 4294967296 ∧ (∀ i, i < ns.length → ∃ ad, A = some ad ∧ w.cell? (ad.add i) = some (.int .i64 (ns.getD i 0))) ∧ ∀ n ∈ ns, -9223372036854775808 ≤ n ∧ n ≤ 9223372036854775807
def numAt (ns : List Int) (i : Nat) : Int := ns.getD i 0
theorem numAt_take {l : List Int} {i : Nat} (h : i < l.length) : l.take (i + 1) = l.take i ++ [numAt l i] := by
  rw [List.take_succ_eq_append_getElem h]
  simp [numAt, List.getD_eq_getElem?_getD, List.getElem?_eq_getElem h]
theorem numAt_mem {l : List Int} {i : Nat} (h : i < l.length) : numAt l i ∈ l := by
  simp [numAt, List.getD_eq_getElem?_getD, List.getElem?_eq_getElem h]
set_option maxRecDepth 100000 in
theorem ints_calls (ns : List Int) (v : Value) (w : World) (h : IsI w ns v) :
    Calls Tryd.prog 46 #[v] w fun e w' => ∃ r, e = .returned r ∧ IsS w' (fun b => w.heap.size ≤ b) (ns.map V.int) r ∧ Below w.heap.size w w' := by
  obtain ⟨A, cap, rfl, hcap, hlen, hcell, hbd⟩ := h
  have HC := Lib.hid hcell
  have HB := Lib.hid hbd
  clear hcell hbd
  go_enter Tryd.func46, Tryd.ntmps46
  go_wp2_with fail
  go_loopw [3, 8] (fun a b wr => ∃ (i : Nat) (L : List V), b = .int .i64 i ∧ i ≤ ns.length ∧ Hid (L = (ns.take i).map V.int) ∧ Hid (OwnL wr w.heap.size (fun b => w.heap.size ≤ b) L a) ∧ Below w.heap.size w wr) (fun _ b _ => ns.length - (intOf b).toNat)
  case atStart => exact ⟨0, [], rfl, by omega, Lib.hid rfl, Lib.hid (OwnL.nil _ _ _), Below.refl _ _⟩
  case round =>
    obtain ⟨i, L, rfl, hi, hL, hO, hf⟩ := hrel
    obtain ⟨A1, c1, he, hlc⟩ := hO.out.form
    subst he
    have hll : L.length ≤ 4294967296 := by rw [hL.out]; simp; omega
    by_cases hlt : i < ns.length
    · obtain ⟨ad, rfl, hc⟩ := HC.out i hlt
      have hc2 : wr.cell? (ad.add i) = some (.int .i64 (numAt ns i)) := cellB hf hc
      clear hc
      have hsz := hf.size
      have HBN := Lib.hid (HB.out _ (numAt_mem hlt))
      go_wp2_with (first | (go_at_call 47; refine (int_calls _ _).mono ?_; rintro e w3 ⟨rfl, hb3⟩; have hb4 := below_then hf hf.size hb3; have hO3 := Lib.hid (hO.out.below hb3); have hB3 := hb4.size) | (at_builtin; refine append_one w.heap.size (fun b => w.heap.size ≤ b) rfl _ _ rfl (.slice A1 L.length c1) L (V.int (numAt ns i)) _ _ _ _ rfl rfl hO3.out (int_vc _ _ HBN.out.1 HBN.out.2) hB3 hll ?_; intro v1 w4 hO4 hg4; have hO5 := Lib.hid hO4; clear hO4))
      go_roundw
      case rel => exact ⟨i + 1, L ++ [V.int (numAt ns i)], by go_num, by omega, Lib.hid (by rw [hL.out, numAt_take hlt]; simp), hO5, hb4.grown hg4 hB3 (fun k hk => (hO3.out.own_lt k hk).1)⟩
      case measure => simp [intOf]; omega
    · have H : Hid (IsS wr (fun b => w.heap.size ≤ b) (ns.map V.int) (.slice A1 L.length c1)) := Lib.hid (by
        have h1 := hO.out.is (S' := fun b => w.heap.size ≤ b) (fun _ h => h) (fun _ h => h) hll
        have h2 : L = ns.map V.int := by rw [hL.out, List.take_of_length_le (by omega)]
        rw [h2] at h1 ⊢
        exact h1)
      go_wp2_with fail
      go_ret
      exact ⟨_, rfl, H.out, hf⟩

/-- A list as a value; what is wrong with it. -/
def listV (l : List V) : V × Int := if listE l = 0 then (if rightB (V.list l) = true then (V.list l, 0) else (V.zero, 2)) else (V.zero, listE l)
theorem list_bd {l : List V} (h : l.length ≤ 4294967296) : V.Bd (V.list l) := ⟨by simp [V.list, V.kind], by simp [V.list, V.kind], by simp [V.list, V.num], by simp [V.list, V.num], Nat.zero_le _, h⟩
theorem list_is {w : World} {S : Nat → Prop} {l : List V} {A : Option Addr} {cap : Nat} (hl : l.length ≤ 4294967296) (hc : l.length ≤ cap) (h : LA w S l A) : IsV w S (V.list l) (.agg #[.int .i64 4, .int .i64 0, .string ⟨#[]⟩, .slice A l.length cap]) :=
  IsV.mk (x := V.list l) (list_bd hl) hc h
set_option maxRecDepth 100000 in
theorem made_calls (l : List V) (vl : Value) (w : World) (S : Nat → Prop) (hl : IsS w S l vl) (hT : Lib.Utf8Tabs 0 1 w) :
    Calls Tryd.prog 67 #[.int .i64 4, vl] w fun e w' => ∃ v, e = .returned (.tuple #[v, .int .i64 (if rightB (V.list l) = true then 0 else 2)]) ∧ IsV w' (fun b => w.heap.size ≤ b) (if rightB (V.list l) = true then V.list l else V.zero) v ∧ Below w.heap.size w w' := by
  obtain ⟨A, ca, rfl, hca, hla, hA⟩ := hl
  obtain ⟨w1, hw1, hB1, hsz, hb0, hb1⟩ := boxes2 w (.int .i64 0) (.int .i64 0) (.string ⟨#[]⟩) (.slice none 0 0) (.int .i64 4) (.int .i64 0) (.string ⟨#[]⟩) (.slice A l.length ca) 31
  have hX := list_is hla hca hA
  have HR := right_calls _ _ w1 S (hX.below hB1) (tabs_below hT hB1)
  have HO := fun (w' : World) (hb' : Below w1.heap.size w1 w') => own_calls _ _ w' S (hX.below (below_then hB1 hB1.size hb'))
  have HO := Lib.hid HO
  clear hX hT
  obtain ⟨a0, a1, a2, a3⟩ := block4 hb1
  obtain ⟨e0, e1, e2, e3⟩ := block4 hb0
  have HB0 := Lib.hid hb0
  clear hb0 hb1
  cases hr : rightB (V.list l) with
  | true =>
    rw [hr] at HR
    have HR := Lib.hid HR
    clear hr
    rw [if_pos rfl, if_pos rfl]
    go_enter Tryd.func67, Tryd.ntmps67
    go_wp2_with (first | (go_at_call 63; refine HR.out.mono ?_; rintro e w2 ⟨rfl, hb2⟩; have a0' := cellB hb2 a0; have a1' := cellB hb2 a1; have a2' := cellB hb2 a2; have a3' := cellB hb2 a3; clear a0 a1 a2 a3) | (go_at_call 48; refine (HO.out _ hb2).mono ?_; rintro e w3 ⟨v, rfl, hv, hb3⟩; obtain ⟨hbv, A2, cap2, rfl, hc2, hLA2⟩ := hv.eq; have f0 := cellB hb3 (cellB hb2 e0); have f1 := cellB hb3 (cellB hb2 e1); have f2 := cellB hb3 (cellB hb2 e2); have f3 := cellB hb3 (cellB hb2 e3); have fz := free4 (blockB hb3 (blockB hb2 HB0.out)); clear e0 e1 e2 e3))
    refine bodyPost_ret (v := .tuple #[.agg #[.int .i64 (V.list l).kind, .int .i64 (V.list l).num, .string (V.list l).text, .slice A2 (V.list l).items.length cap2], .int .i64 0]) (by simp [results, Tryd.results67, go_sem, f0, f1, f2, f3]) rfl ⟨_, rfl, ?_, ?_⟩
    · have hn : ∀ b, b < w2.heap.size → ¬ (fun b => w2.heap.size ≤ b) b := fun b h (h' : w2.heap.size ≤ b) => by omega
      have hs2 := hb2.size
      refine (IsV.keep (S' := fun b => w2.heap.size ≤ b) ?_ hv).keep (Keeps.weak fun b (h : w2.heap.size ≤ b) => show w.heap.size ≤ b by omega)
      repeat refine Keeps.set_after ?_ (hn _ (by simp; omega)) _
      exact Keeps.refl _ _
    · repeat refine Below.setCell ?_ (by simp) _
      exact below_then hB1 hB1.size (below_then hb2 hb2.size hb3)
  | false =>
    rw [hr] at HR
    have HR := Lib.hid HR
    clear hr
    rw [if_neg (by decide), if_neg (by decide)]
    go_enter Tryd.func67, Tryd.ntmps67
    go_wp2_with (go_at_call 63; refine HR.out.mono ?_; rintro e w2 ⟨rfl, hb2⟩; have f0 := cellB hb2 e0; have f1 := cellB hb2 e1; have f2 := cellB hb2 e2; have f3 := cellB hb2 e3; have fz := free4 (blockB hb2 HB0.out); clear e0 e1 e2 e3)
    refine bodyPost_ret (v := .tuple #[.agg #[.int .i64 0, .int .i64 0, .string ⟨#[]⟩, .slice none 0 0], .int .i64 2]) (by simp [results, Tryd.results67, go_sem, f0, f1, f2, f3]) rfl ⟨_, rfl, zero_is _ _, ?_⟩
    repeat refine Below.setCell ?_ (by simp) _
    exact below_then hB1 hB1.size hb2
end Go.Proofs.YtaeldfnihocljaaDoor
