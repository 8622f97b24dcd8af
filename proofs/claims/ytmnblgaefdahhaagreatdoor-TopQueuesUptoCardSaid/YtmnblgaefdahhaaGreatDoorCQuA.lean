/- Numbers as values; members, each once. Members, each once, where the same ones stand together. The little program of TopQueues. The little program of TopQueues, walked. The law TopQueues. -/
import Derived.Handy
import Derived.IntWalk
import Derived.Deep.RegionHeld3
import Derived.Test.YtmnblgaefdahhaaGreatDoorCQtF
import Derived.Test.YtmnblgaefdahhaaGreatDoorCValC
/- Numbers as values; members, each once. -/
set_option linter.unusedVariables false
set_option linter.unusedSimpArgs false
namespace Go.Proofs.YtmnblgaefdahhaaGreatDoor
open Go.RowKit Go.Shelf
attribute [local go_sem] lt_succ_of

/-- A number as a value. -/
def V.int (n : Int) : V := .mk 2 n ⟨#[]⟩ []
theorem int_bd {n : Int} (h0 : -9223372036854775808 ≤ n) (h1 : n ≤ 9223372036854775807) : V.Bd (V.int n) := ⟨by simp [V.int, V.kind], by simp [V.int, V.kind], h0, h1, Nat.zero_le _, by simp [V.int, V.items]⟩
theorem int_vc (w : World) (S : Nat → Prop) {n : Int} (h0 : -9223372036854775808 ≤ n) (h1 : n ≤ 9223372036854775807) : VC w S (V.int n) [.int .i64 2, .int .i64 n, .string ⟨#[]⟩, .slice none 0 0] :=
  VC.mk (x := V.int n) (cap := 0) (A := none) (int_bd h0 h1) (by simp [V.int, V.items]) (.inl rfl)
theorem int_is (w : World) (S : Nat → Prop) {n : Int} (h0 : -9223372036854775808 ≤ n) (h1 : n ≤ 9223372036854775807) : IsV w S (V.int n) (.agg #[.int .i64 2, .int .i64 n, .string ⟨#[]⟩, .slice none 0 0]) :=
  IsV.mk (x := V.int n) (cap := 0) (A := none) (int_bd h0 h1) (by simp [V.int, V.items]) (.inl rfl)
theorem int_calls (n : Int) (w : World) : Calls Tryz.prog 36 #[.int .i64 n] w fun e w' => e = .returned (.agg #[.int .i64 2, .int .i64 n, .string ⟨#[]⟩, .slice none 0 0]) ∧ Below w.heap.size w w' := by
  go_enter Tryz.func36, Tryz.ntmps36
  go_wp2_with fail
  refine bodyPost_ret (v := .agg #[.int .i64 2, .int .i64 n, .string ⟨#[]⟩, .slice none 0 0]) (by simp [results, Tryz.results36, go_sem]) rfl ⟨rfl, ?_⟩
  exact (Below.refl _ _).alloc (Nat.le_refl _) _

/-- A slice of numbers. -/
def IsI (w : World) (ns : List Int) (v : Value) : Prop := ∃ A cap, v = .slice A ns.length cap ∧ ns.length ≤ cap ∧ ns.length ≤ 4294967296 ∧ (∀ i, i < ns.length → ∃ ad, A = some ad ∧ w.cell? (ad.add i) = some (.int .i64 (ns.getD i 0))) ∧ ∀ n ∈ ns, -9223372036854775808 ≤ n ∧ n ≤ 9223372036854775807
def numAt (ns : List Int) (i : Nat) : Int := ns.getD i 0
theorem numAt_take {l : List Int} {i : Nat} (h : i < l.length) : l.take (i + 1) = l.take i ++ [numAt l i] := by
  rw [List.take_succ_eq_append_getElem h]
  simp [numAt, List.getD_eq_getElem?_getD, List.getElem?_eq_getElem h]
theorem numAt_mem {l : List Int} {i : Nat} (h : i < l.length) : numAt l i ∈ l := by
  simp [numAt, List.getD_eq_getElem?_getD, List.getElem?_eq_getElem h]
set_option maxRecDepth 100000 in
theorem ints_calls (ns : List Int) (v : Value) (w : World) (h : IsI w ns v) :
    Calls Tryz.prog 19 #[v] w fun e w' => ∃ r, e = .returned r ∧ IsS w' (fun b => w.heap.size ≤ b) (ns.map V.int) r ∧ Below w.heap.size w w' := by
  obtain ⟨A, cap, rfl, hcap, hlen, hcell, hbd⟩ := h
  have HC := Lib.hid hcell
  have HB := Lib.hid hbd
  clear hcell hbd
  go_enter Tryz.func19, Tryz.ntmps19
  go_wp2_with fail
  go_loopw [3, 8] (fun a b wr => ∃ (i : Nat) (L : List V), b = .int .i64 i ∧ i ≤ ns.length ∧ Hid (L = (ns.take i).map V.int) ∧ Hid (OwnL wr w.heap.size (fun b => w.heap.size ≤ b) L a) ∧ Below w.heap.size w wr) (fun _ b _ => ns.length - (intOf b).toNat)
  case atStart => exact ⟨0, [], rfl, by omega, Lib.hid rfl, Lib.hid (OwnL.nil _ _ _), Below.refl _ _⟩
  case round =>
    obtain ⟨i, L, rfl, hi, hL, hO, hf⟩ := hrel
    obtain ⟨A1, c1, he, hlc⟩ := hO.out.form
    subst he
    have hll : L.length ≤ 4294967296 := by rw [hL.out]; simp; omega
    by_cases hlt : i < ns.length
    · obtain ⟨ad, rfl, hc⟩ := HC.out i hlt
      have hc2 : wr.cell? (ad.add i) = some (.int .i64 (numAt ns i)) := cellB hf hc
      clear hc
      have hsz := hf.size
      have HBN := Lib.hid (HB.out _ (numAt_mem hlt))
      go_wp2_with (first | (go_at_call 36; refine (int_calls _ _).mono ?_; rintro e w3 ⟨rfl, hb3⟩; have hb4 := below_then hf hf.size hb3; have hO3 := Lib.hid (hO.out.below hb3); have hB3 := hb4.size) | (at_builtin; refine append_one w.heap.size (fun b => w.heap.size ≤ b) rfl _ _ rfl (.slice A1 L.length c1) L (V.int (numAt ns i)) _ _ _ _ rfl rfl hO3.out (int_vc _ _ HBN.out.1 HBN.out.2) hB3 hll ?_; intro v1 w4 hO4 hg4; have hO5 := Lib.hid hO4; clear hO4))
      go_roundw
      case rel => exact ⟨i + 1, L ++ [V.int (numAt ns i)], by go_num, by omega, Lib.hid (by rw [hL.out, numAt_take hlt]; simp), hO5, hb4.grown hg4 hB3 (fun k hk => (hO3.out.own_lt k hk).1)⟩
      case measure => simp [intOf]; omega
    · have H : Hid (IsS wr (fun b => w.heap.size ≤ b) (ns.map V.int) (.slice A1 L.length c1)) := Lib.hid (by
        have h1 := hO.out.is (S' := fun b => w.heap.size ≤ b) (fun _ h => h) (fun _ h => h) hll
        have h2 : L = ns.map V.int := by rw [hL.out, List.take_of_length_le (by omega)]
        rw [h2] at h1 ⊢
        exact h1)
      go_wp2_with fail
      go_ret
      exact ⟨_, rfl, H.out, hf⟩

end Go.Proofs.YtmnblgaefdahhaaGreatDoor

/- Members, each once, where the same ones stand together. -/
set_option linter.unusedVariables false
set_option linter.unusedSimpArgs false
namespace Go.Proofs.YtmnblgaefdahhaaGreatDoor
open Go.RowKit Go.Shelf
attribute [local go_sem] lt_succ_of

def onceF : Option V → List V → List V
  | _, [] => []
  | none, x :: t => x :: onceF (some x) t
  | some p, x :: t => if eqV p x = true then onceF (some x) t else x :: onceF (some x) t
theorem onceF_some : ∀ (t : List V) (x : V), x :: onceF (some x) t = onceL (x :: t)
  | [], x => rfl
  | y :: t, x => by
    rw [onceF, onceL]
    by_cases h : eqV x y = true
    · rw [if_pos h, if_pos h, ← onceF_some t y, (eqV_iff x y).1 h]
    · rw [if_neg h, if_neg h, ← onceF_some t y]
theorem onceF_none (l : List V) : onceF none l = onceL l := by
  cases l with
  | nil => rfl
  | cons x t => exact onceF_some t x
def prevV (l : List V) (i : Nat) : Option V := if i = 0 then none else some (itemAt l (i - 1))
set_option maxRecDepth 100000 in
set_option maxHeartbeats 2000000 in
theorem once_calls (l : List V) (vl : Value) (w : World) (S : Nat → Prop) (hl : IsS w S l vl) :
    Calls Tryz.prog 11 #[vl] w fun e w' => ∃ v, e = .returned v ∧ IsS w' (fun _ => True) (onceL l) v ∧ Below w.heap.size w w' := by
  obtain ⟨A, ca, rfl, hca, hla, hA⟩ := hl
  have HA := Lib.hid hA
  clear hA
  go_enter Tryz.func11, Tryz.ntmps11
  go_wp2_with fail
  go_loopw [3, 8] (fun vo vi wr => ∃ (i : Nat) (done : List V), vi = .int .i64 i ∧ i ≤ l.length ∧ Hid (done ++ onceF (prevV l i) (l.drop i) = onceL l) ∧ Hid (done.length ≤ i) ∧ Hid (OwnL wr w.heap.size (fun _ => True) done vo) ∧ Below w.heap.size w wr) (fun _ vi _ => l.length - (intOf vi).toNat)
  case atStart => exact ⟨0, [], rfl, Nat.zero_le _, Lib.hid (by rw [List.nil_append]; exact onceF_none l), Lib.hid (Nat.le_refl _), Lib.hid (OwnL.nil _ _ _), Below.refl _ _⟩
  case round =>
    obtain ⟨i, done, rfl, hil, hdn, hdl, hO, hb⟩ := hrel
    obtain ⟨Ao, co, rfl, hco⟩ := hO.out.form
    have hA' : LA wr (fun b => S b ∧ b < w.heap.size) l A := HA.out.keep (Keeps.below_to hb fun b h1 h2 => ⟨h2, h1⟩)
    by_cases hlt : i < l.length
    · have hz : (i : Int) < (l.length : Int) := by omega
      obtain ⟨ad, A1, c1, rfl, hlb, hbd, f0, f1, f2, f3, hc1, hLA⟩ := hA'.at i hlt
      have hown := Lib.hid hO.out.own_lt
      have hdrop := itemAt_drop hlt
      have hsz := Lib.hid hb.size
      obtain ⟨x, hx⟩ : ∃ x, itemAt l i = x := ⟨_, rfl⟩
      have hpv : prevV l (i + 1) = some x := by rw [← hx]; rfl
      rw [hx] at hbd f0 f1 f2 f3 hc1 hLA
      have hLT : LA wr (fun b => True ∧ some b ≠ (Value.slice Ao done.length co).ownBlock) x.items A1 := hLA.keep (Keeps.weak fun b h => ⟨trivial, fun e => by have := (hown.out b e.symm).1; omega⟩)
      obtain ⟨w3, hw3, hB3, hs3, hx3⟩ := box1 wr (.int .i64 x.kind) (.int .i64 x.num) (.string x.text) (.slice A1 x.items.length c1) 39
      have hdl4 : Hid (done.length ≤ 4294967296) := Lib.hid (by have := hdl.out; omega)
      have HB3 := Lib.hid hB3
      have HX3 := Lib.hid hx3
      have HLA3 := Lib.hid (And.intro hbd (hLA.below hB3))
      have HDL2 : Hid ((done ++ [x]).length ≤ i + 1) := Lib.hid (by rw [List.length_append, List.length_singleton]; have := hdl.out; omega)
      have HLT := Lib.hid hLT
      by_cases h0 : i = 0
      · have HD2 : Hid ((done ++ [x]) ++ onceF (prevV l (i + 1)) (l.drop (i + 1)) = onceL l) := Lib.hid (by
          have h1 := hdn.out
          rw [hdrop, show prevV l i = none by rw [h0]; rfl, onceF, hx] at h1
          rw [hpv]
          simpa using h1)
        have z0 : ((i : Int) == 0) = true := by rw [h0]; rfl
        clear hbd hLA hB3 hx3 hdrop hA' hdn hLT h0 hpv
        go_wp2_with fail
        obtain ⟨e0, e1, e2, e3⟩ := block4 HX3.out
        clear hw3 f0 f1 f2 f3
        go_quiet (fail)
        have hbq : Below w3.heap.size w3 (w3.drewN nq) := ⟨rfl, rfl, rfl, Nat.le_refl _, fun _ _ => rfl⟩
        have hbr4 := Lib.hid (below_then hb hsz.out (below_then HB3.out HB3.out.size hbq))
        have HO4 := Lib.hid (hO.out.below (below_then HB3.out HB3.out.size hbq))
        have HVC := Lib.hid (VC.mk HLA3.out.1 hc1 (HLT.out.below (below_then HB3.out HB3.out.size hbq)))
        go_wp2_with (at_builtin; refine append_oneW w.heap.size (fun _ => True) rfl _ _ rfl (.slice Ao done.length co) done x _ _ _ _ rfl _ (by first | rfl | simp) rfl HO4.out HVC.out hbr4.out.size hdl4.out ?_; intro v1 w5 hO5 hg5 hat5; have hb5 := Below.grown hbr4.out hg5 hbr4.out.size (fun k e => (hown.out k e).1); have HO5 := Lib.hid hO5; clear hO5 hg5 hat5)
        go_roundw
        case rel => exact ⟨i + 1, done ++ [x], by go_num, by omega, HD2, HDL2, HO5, hb5⟩
        case measure => simp [intOf]; omega
      · obtain ⟨j, hj⟩ : ∃ j, i = j + 1 := ⟨i - 1, by omega⟩
        have hjl : j < l.length := by omega
        obtain ⟨ad2, A2, c2, hade, hlb2, hbd2, g0, g1, g2, g3, hc2, hLA2⟩ := hA'.at j hjl
        obtain rfl : ad = ad2 := by injection hade
        obtain ⟨y, hy⟩ : ∃ y, itemAt l j = y := ⟨_, rfl⟩
        rw [hy] at hbd2 g0 g1 g2 g3 hc2 hLA2
        have hpj : prevV l i = some y := by rw [hj, ← hy]; rfl
        have z0 : ((i : Int) == 0) = false := by rw [beq_eq_false_iff_ne]; omega
        have hsub : IntKind.i64.wrap ((i : Int) - 1) = (j : Int) := by rw [IntWalk.i64_in _ (by omega)]; omega
        have hj0 : (0 : Int) ≤ (j : Int) := by omega
        have hjz : (j : Int) < (l.length : Int) := by omega
        have HK := Lib.hid (same_calls y x _ _ w3.drew (fun b => S b ∧ b < w.heap.size) (fun b => S b ∧ b < w.heap.size) ((IsV.mk hbd2 hc2 hLA2).below (hB3.drew)) ((IsV.mk hbd hc1 hLA).below (hB3.drew)))
        have HDP : Hid (done ++ (if eqV y x = true then onceF (some x) (l.drop (i + 1)) else x :: onceF (some x) (l.drop (i + 1))) = onceL l) := Lib.hid (by
          have h1 := hdn.out
          rw [hdrop, hpj, onceF, hx] at h1
          exact h1)
        obtain ⟨E, hE⟩ : ∃ E, eqV y x = E := ⟨_, rfl⟩
        rw [hE] at HK HDP
        have HPV := Lib.hid hpv
        clear hbd hLA hB3 hx3 hdrop hA' hdn hLT h0 hpv hbd2 hLA2 hj hpj hE hade
        go_wp2_with fail
        obtain ⟨e0, e1, e2, e3⟩ := block4 HX3.out
        have g0' := cellB HB3.out g0
        have g1' := cellB HB3.out g1
        have g2' := cellB HB3.out g2
        have g3' := cellB HB3.out g3
        have hlb3 := Nat.lt_of_lt_of_le hlb2 HB3.out.size
        clear hw3 f0 f1 f2 f3 g0 g1 g2 g3
        go_still_tail 9, (by kernel_rfl)
        cases E with
        | true =>
          have HD3 : Hid (done ++ onceF (prevV l (i + 1)) (l.drop (i + 1)) = onceL l) := Lib.hid (by have h1 := HDP.out; rw [if_pos rfl] at h1; rw [HPV.out]; exact h1)
          go_wp2_with (go_at_call 20; refine HK.out.mono ?_; rintro e w4 ⟨rfl, hb4⟩; have hbq := below_undrew hb4; have hbr4 := below_then hb hsz.out (below_then HB3.out HB3.out.size hbq); have HO4 := Lib.hid (hO.out.below (below_then HB3.out HB3.out.size hbq)); clear hb4)
          go_roundw
          case rel => exact ⟨i + 1, done, by go_num, by omega, HD3, Lib.hid (by have := hdl.out; omega), HO4, hbr4⟩
          case measure => simp [intOf]; omega
        | false =>
          have HD3 : Hid ((done ++ [x]) ++ onceF (prevV l (i + 1)) (l.drop (i + 1)) = onceL l) := Lib.hid (by have h1 := HDP.out; rw [if_neg (by decide)] at h1; rw [HPV.out]; simpa using h1)
          go_wp2_with (first
            | (go_at_call 20; refine HK.out.mono ?_; rintro e w4 ⟨rfl, hb4⟩; have hbq := below_undrew hb4; have hbr4 := Lib.hid (below_then hb hsz.out (below_then HB3.out HB3.out.size hbq)); have HO4 := Lib.hid (hO.out.below (below_then HB3.out HB3.out.size hbq)); have HVC := Lib.hid (VC.mk HLA3.out.1 hc1 (HLT.out.below (below_then HB3.out HB3.out.size hbq))); have e0' := cellB hbq e0; have e1' := cellB hbq e1; have e2' := cellB hbq e2; have e3' := cellB hbq e3; have hs4 := Nat.lt_of_lt_of_le hs3 hbq.size; clear hb4 hbq e0 e1 e2 e3)
            | (at_builtin; refine append_oneW w.heap.size (fun _ => True) rfl _ _ rfl (.slice Ao done.length co) done x _ _ _ _ rfl _ (by first | rfl | simp) rfl HO4.out HVC.out hbr4.out.size hdl4.out ?_; intro v1 w5 hO5 hg5 hat5; have hb5 := Below.grown hbr4.out hg5 hbr4.out.size (fun k e => (hown.out k e).1); have HO5 := Lib.hid hO5; clear hO5 hg5 hat5))
          go_roundw
          case rel => exact ⟨i + 1, done ++ [x], by go_num, by omega, HD3, HDL2, HO5, hb5⟩
          case measure => simp [intOf]; omega
    · have he : i = l.length := by omega
      have HE : Hid (IsS wr (fun _ => True) (onceL l) (.slice Ao done.length co)) := Lib.hid (by
        have h1 := hdn.out
        rw [he, List.drop_length] at h1
        have h2 : onceF (prevV l l.length) [] = [] := by cases prevV l l.length <;> rfl
        rw [h2, List.append_nil] at h1
        rw [← h1]
        exact hO.out.is (fun _ _ => trivial) (fun _ _ => trivial) (by have := hdl.out; omega))
      have hz : ¬ (i : Int) < (l.length : Int) := by omega
      clear he hdn hdl hO
      go_wp2_with fail
      go_ret
      exact ⟨_, rfl, HE.out, hb⟩
end Go.Proofs.YtmnblgaefdahhaaGreatDoor

/- The little program of TopQueues. -/
set_option linter.unusedVariables false
set_option linter.unusedSimpArgs false
namespace Go.Proofs.YtmnblgaefdahhaaGreatDoor
open Go.RowKit Go.Shelf
attribute [local go_sem] lt_succ_of

theorem once_len : ∀ l : List V, (onceL l).length ≤ l.length
  | [] => Nat.le_refl _
  | [x] => Nat.le_refl _
  | x :: y :: t => by
    have ih := once_len (y :: t)
    rw [onceL]
    split
    · rw [List.length_cons]; omega
    · rw [List.length_cons, List.length_cons]; omega
theorem qof_calls (o : Int) (l : List V) (vl : Value) (w : World) (S : Nat → Prop) (hl : IsS w S l vl) (hT : Lib.Utf8Tabs 1 2 w) :
    Calls Tryz.prog 4 #[.int .i64 o, vl] w fun e w' => ((errO o l = 0 ∧ ∃ p, e = .returned (.tuple #[.pointer p, .int .i64 0]) ∧ IsQ w' (fun b => w.heap.size ≤ b) o.toNat (ofH (ordF o.toNat) l) p) ∨ (errO o l ≠ 0 ∧ e = .returned (.tuple #[.pointer none, .int .i64 (errO o l)]))) ∧ Below w.heap.size w w' := by
  by_cases h1 : o < 0 ∨ 5 < o
  · have e : errO o l = 4 := by unfold errO; rw [if_pos h1]
    rw [e]
    exact (qof_kind o h1 vl w).mono fun e w' ⟨h2, h3⟩ => ⟨.inr ⟨by decide, h2⟩, h3 ▸ Below.refl _ _⟩
  · obtain ⟨n, rfl, hn⟩ : ∃ n : Nat, o = n ∧ n < 6 := ⟨o.toNat, by omega, by omega⟩
    rw [Int.toNat_natCast]
    by_cases h2 : 65536 < l.length
    · have e : errO n l = 2 := by unfold errO; rw [if_neg h1, if_pos h2]
      rw [e]
      obtain ⟨A, ca, rfl, _⟩ := hl
      exact (qof_long n hn l.length A ca h2 w).mono fun e w' ⟨h3, h4⟩ => ⟨.inr ⟨by decide, h3⟩, h4⟩
    · refine (qof_list n hn l (by omega) vl w S hl hT).mono fun e w' ⟨h3, h4⟩ => ⟨?_, h4⟩
      rcases h3 with ⟨p, h5, h6, h7⟩ | ⟨h5, h6⟩
      · have e : errO n l = 0 := by unfold errO; rw [if_neg h1, if_neg h2, if_pos (List.all_eq_true.2 h7)]
        rw [e]
        exact .inl ⟨rfl, p, h5, h6⟩
      · have e : errO n l = 3 := by unfold errO; rw [if_neg h1, if_neg h2, if_neg (fun h => h6 (fun x hx => List.all_eq_true.1 h x hx))]
        rw [e]
        exact .inr ⟨by decide, h5⟩
theorem osort_calls (o : Int) (l : List V) (vl : Value) (w : World) (S : Nat → Prop) (hl : IsS w S l vl) (hT : Lib.Utf8Tabs 1 2 w) :
    Calls Tryz.prog 5 #[.int .i64 o, vl] w fun e w' => ((errO o l = 0 ∧ ∃ v' s, e = .returned (.tuple #[v', .int .i64 0]) ∧ IsS w' (fun b => w.heap.size ≤ b) s v' ∧ s.Perm l ∧ SortC (ordF o.toNat) s) ∨ (errO o l ≠ 0 ∧ e = .returned (.tuple #[.slice none 0 0, .int .i64 (errO o l)]))) ∧ Below w.heap.size w w' := by
  by_cases h : errO o l = 0
  · obtain ⟨n, rfl, hn, hlen, hr⟩ := errO_good h
    rw [Int.toNat_natCast]
    exact (osort_good n hn l hlen hr vl w S hl hT).mono fun e w' ⟨v', s, h1, h2, h3, h4, h5⟩ => ⟨.inl ⟨h, v', s, h1, h2, h3, h4⟩, h5⟩
  · exact (osort_bad o l h vl w S hl hT).mono fun e w' ⟨h1, h2⟩ => ⟨.inr ⟨h, h1⟩, h2⟩
/-- What a queue and a sort say is one list. -/
theorem taken_is {o : Nat} {l s : List V} (hr : ∀ x ∈ l, rightB x = true) (hp : s.Perm l) (hs : SortC (ordF o) s) : takenH (ordF o) (itemsO (ofH (ordF o) l)).length (ofH (ordF o) l) = s := by
  have hg := ofH_good (ordF_ordr o) _ l rfl
  have h1 := taken_perm (ordF o) _ (ofH (ordF o) l) rfl
  have h2 := taken_sorted (ordF_ordr o) _ (ofH (ordF o) l) rfl hg.2
  refine sortC_one (ordF_ordr o) _ _ (fun x hx => right_all (hr x ?_)) ((h1.trans hg.1).trans hp.symm) h2 hs
  exact hg.1.mem_iff.1 (h1.mem_iff.1 hx)
theorem ord1_int (a b : Int) : ordF 1 (V.int a) (V.int b) = sgn b a := by
  simp only [ordF, if_true, if_neg (show ¬ (1 : Nat) = 0 by omega)]
  rw [cmpV_eq, if_pos (show (V.int b).kind = (V.int a).kind from rfl), if_pos (.inr rfl)]
  rfl
theorem queued_sorted : SortC (ordF 1) [V.int 3, V.int 2, V.int 1] := by
  unfold SortC
  simp only [List.pairwise_cons, List.mem_cons, List.not_mem_nil, or_false, forall_eq_or_imp, forall_eq, ord1_int]
  refine ⟨⟨by decide, by decide⟩, by decide, fun _ h => h.elim, List.Pairwise.nil⟩
theorem queued_right : ∀ x ∈ [V.int 3, V.int 1, V.int 2], rightB x = true := by decide
theorem queued_list {s : List V} (hp : s.Perm [V.int 3, V.int 1, V.int 2]) (hs : SortC (ordF 1) s) : s = [V.int 3, V.int 2, V.int 1] := by
  refine sortC_one (ordF_ordr 1) _ _ (fun x hx => right_all (queued_right x (hp.mem_iff.1 hx))) (hp.trans ?_) hs queued_sorted
  exact (List.Perm.swap _ _ _).cons _
theorem queued_err : errO 1 [V.int 3, V.int 1, V.int 2] = 0 := by decide
end Go.Proofs.YtmnblgaefdahhaaGreatDoor

/- The little program of TopQueues, walked. -/
set_option linter.unusedVariables false
set_option linter.unusedSimpArgs false
namespace Go.Proofs.YtmnblgaefdahhaaGreatDoor
open Go.RowKit Go.Shelf
attribute [local go_sem] lt_succ_of

set_option maxRecDepth 100000 in
set_option maxHeartbeats 2000000 in
theorem queued_calls (w : World) (hT : Lib.Utf8Tabs 1 2 w) : Calls Tryz.prog 7 #[] w fun e w' => e = .returned (.bool true) ∧ Below w.heap.size w w' := by
  have hw1 : ∃ w1, w.alloc (.cells #[.int .i64 3, .int .i64 1, .int .i64 2] 2) = w1 ∧ Below w.heap.size w w1 ∧ w1.heap[w.heap.size]? = some (.cells #[.int .i64 3, .int .i64 1, .int .i64 2] 2 (0, 0)) :=
    ⟨_, rfl, (Below.refl _ _).alloc (Nat.le_refl _) _, heap_alloc_new w _⟩
  obtain ⟨w1, hw1, hB1, hb0⟩ := hw1
  have hI : IsI w1 [3, 1, 2] (.slice (some ⟨w.heap.size, 0, none⟩) 3 3) := by
    refine ⟨some ⟨w.heap.size, 0, none⟩, 3, rfl, by simp, by simp, fun i hi => ⟨_, rfl, ?_⟩, fun n hn => ?_⟩
    · rw [plus0]
      match i, hi with
      | 0, _ => simp [World.cell?, hb0]
      | 1, _ => simp [World.cell?, hb0]
      | 2, _ => simp [World.cell?, hb0]
    · simp at hn
      rcases hn with rfl | rfl | rfl <;> omega
  have HINTS := Lib.hid (ints_calls [3, 1, 2] _ w1 hI)
  have HT := Lib.hid hT
  clear hT hI hb0
  go_enter Tryz.func7, Tryz.ntmps7
  go_wp2_with (first
    | (go_at_call 19; refine HINTS.out.mono ?_; rintro e w2 ⟨r, rfl, hr, hb2⟩; have hb3 := below_then hB1 hB1.size hb2; have HOF := Lib.hid (qof_list 1 (by omega) [V.int 3, V.int 1, V.int 2] (by simp) r w2 _ hr (tabs_below HT.out hb3)); have HR := Lib.hid hr; clear hr hb2)
    | (go_at_call 4; refine HOF.out.mono ?_; rintro e w3 ⟨hq, hb4⟩; obtain ⟨p, rfl, hq1, _⟩ := hq.resolve_right (fun h => h.2 queued_right); obtain ⟨pb, pq, rfl, hpr⟩ := hq1; have HQ := Lib.hid (show IsQ w3 (fun b => w2.heap.size ≤ b) 1 (ofH (ordF 1) [V.int 3, V.int 1, V.int 2]) (some ⟨pb, 0, none⟩) from ⟨pb, pq, rfl, hpr⟩); have HST := Lib.hid (osort_good 1 (by omega) [V.int 3, V.int 1, V.int 2] (by simp) queued_right r w3 _ (HR.out.below hb4) (tabs_below HT.out (below_then hb3 hb3.size hb4))); have hb5 := below_then hb3 hb3.size hb4; clear hq hpr hb4)
    | (go_at_call 5; refine HST.out.mono ?_; rintro e w4 ⟨v4, s, rfl, hs4, hp4, ho4, hb6⟩; obtain rfl := queued_list hp4 ho4; obtain ⟨A4, c4, rfl, hc4, hl4, hA4⟩ := hs4; have hb7 := below_then hb5 hb5.size hb6; have HQ4 := Lib.hid (HQ.out.below hb6); have HA4 := Lib.hid hA4; clear hA4 hb6 ho4 hp4; obtain ⟨ad, A5, c5, rfl, hlt5, _, f0, f1, f2, f3, _⟩ := HA4.out.at 0 (by decide); have had : ad.add (0 * 4) = ad := (by unfold Addr.add; rw [if_pos rfl]); rw [had] at f0 f1 f2 f3 hlt5; replace f0 : w4.cell? ad = some (.int .i64 2) := f0; replace f1 : w4.cell? ⟨ad.block, ad.off + 1, none⟩ = some (.int .i64 3) := f1; replace f2 : w4.cell? ⟨ad.block, ad.off + 2, none⟩ = some (.string ⟨#[]⟩) := f2; replace f3 : w4.cell? ⟨ad.block, ad.off + 3, none⟩ = some (.slice A5 0 c5) := f3; have HSO := Lib.hid (qsorted_calls 1 (by omega) (ofH (ordF 1) [V.int 3, V.int 1, V.int 2]) (some ⟨pb, 0, none⟩) w4 _ HQ4.out (ofH_rt (ordF_ordr 1) queued_right) (by rw [ofH_len (ordF_ordr 1)]; decide) (tabs_below HT.out hb7)))
    | (go_at_call 9; refine HSO.out.mono ?_; rintro e w6 ⟨v6, rfl, hs6, hb8⟩; have hb9 := below_then hb7 hb7.size hb8; rw [taken_is queued_right ((List.Perm.swap _ _ _).cons _ : ([V.int 3, V.int 2, V.int 1] : List V).Perm [V.int 3, V.int 1, V.int 2]) queued_sorted] at hs6; have HVS := Lib.hid (sames_calls _ _ v6 (.slice (some ad) 3 c4) w6 _ _ hs6 (show IsS w6 (fun b => w3.heap.size ≤ b) [V.int 3, V.int 2, V.int 1] (.slice (some ad) 3 c4) from ⟨some ad, c4, rfl, hc4, hl4, HA4.out.below hb8⟩)); rw [(eqL_iff _ _).2 rfl] at HVS; clear hs6 hb8)
    | (go_at_call 8; refine HVS.out.mono ?_; rintro e w7 ⟨rfl, hb10⟩))
  go_ret
  exact ⟨rfl, below_then hb9 hb9.size hb10⟩
end Go.Proofs.YtmnblgaefdahhaaGreatDoor

/- The law TopQueues. -/
set_option linter.unusedVariables false
set_option linter.unusedSimpArgs false
namespace Go.Proofs.YtmnblgaefdahhaaGreatDoor
open Go.RowKit Go.Shelf
attribute [local go_sem] lt_succ_of

set_option maxRecDepth 100000 in
set_option maxHeartbeats 4000000 in
theorem topqueues_calls (o : Int) (l : List V) (vl : Value) (w : World) (S : Nat → Prop) (hl : IsS w S l vl) (hT : Lib.Utf8Tabs 1 2 w) :
    Calls Tryz.prog 3 #[.int .i64 o, vl] w fun e w' => e = .returned (.bool true) ∧ Below w.heap.size w w' := by
  have HOF := qof_calls o l vl w S hl hT
  have HST := fun (W : World) (hb : Below w.heap.size w W) => osort_calls o l vl W S (hl.below hb) (tabs_below hT hb)
  have HSE := fun (W : World) (hb : Below w.heap.size w W) => sof_calls o l vl W S (hl.below hb) (tabs_below hT hb)
  have HQU := Lib.hid (fun (W : World) (hb : Below w.heap.size w W) => queued_calls W (tabs_below hT hb))
  by_cases h0 : errO o l = 0
  · obtain ⟨n, rfl, hn, hlen, hr⟩ := errO_good h0
    rw [h0] at HOF HST HSE
    rw [Int.toNat_natCast] at HOF HST HSE
    have HOF := Lib.hid HOF
    have HST := Lib.hid HST
    have HSE := Lib.hid HSE
    have HR := Lib.hid hr
    have KS := Lib.hid (fun (s : List V) (hp : s.Perm l) (hs : SortC (ordF n) s) => set_once (ordF_ordr n) (fun x hx => right_all (hr x hx)) hp hs)
    have HN := Lib.hid hn
    have HLN := Lib.hid hlen
    have HT := Lib.hid hT
    clear hl hT h0 hr hn hlen
    go_enter Tryz.func3, Tryz.ntmps3
    go_wp2_with (first
      | (go_at_call 4; refine HOF.out.mono ?_; rintro e w2 ⟨hq, hb2⟩; obtain ⟨_, p, rfl, hq1⟩ := hq.resolve_right (fun h => h.1 rfl); obtain ⟨pb, pq, rfl, hpr⟩ := hq1; have HQ := Lib.hid (show IsQ w2 (fun b => w.heap.size ≤ b) n (ofH (ordF n) l) (some ⟨pb, 0, none⟩) from ⟨pb, pq, rfl, hpr⟩); have H2 := Lib.hid (HST.out w2 hb2); clear hq hpr)
      | (go_at_call 5; refine H2.out.mono ?_; rintro e w3 ⟨hs, hb3⟩; obtain ⟨_, v3, s, rfl, hs3, hp3, ho3⟩ := hs.resolve_right (fun h => h.1 rfl); have hb4 := below_then hb2 hb2.size hb3; have HS3 := Lib.hid hs3; have HQ3 := Lib.hid (HQ.out.below hb3); have HP3 := Lib.hid (And.intro hp3 ho3); have H3 := Lib.hid (HSE.out w3 hb4); clear hs hs3 hb3 hp3 ho3)
      | (go_at_call 6; refine H3.out.mono ?_; rintro e w4 ⟨ht, hb5⟩; obtain ⟨_, p4, rfl, ht4⟩ := ht.resolve_right (fun h => h.1 rfl); obtain ⟨tb, tq, rfl, htr⟩ := ht4; have HT4 := Lib.hid (show IsT w4 (fun b => w3.heap.size ≤ b) n (treeK (ordF n) l .nil) (some ⟨tb, 0, none⟩) from ⟨tb, tq, rfl, htr⟩); have hb6 := below_then hb4 hb4.size hb5; have HQ4 := Lib.hid (HQ3.out.below hb5); have HS4 := Lib.hid (HS3.out.below hb5); have HSO := Lib.hid (qsorted_calls n HN.out (ofH (ordF n) l) (some ⟨pb, 0, none⟩) w4 _ HQ4.out (ofH_rt (ordF_ordr n) HR.out) (by rw [ofH_len (ordF_ordr n)]; exact HLN.out) (tabs_below HT.out hb6)); clear ht htr hb5)
      | (go_at_call 9; refine HSO.out.mono ?_; rintro e w6 ⟨v6, rfl, hs6, hb8⟩; have hb9 := below_then hb6 hb6.size hb8; rw [taken_is HR.out HP3.out.1 HP3.out.2] at hs6; have HS6 := Lib.hid (HS4.out.below hb8); have hvs := sames_calls s s v6 v3 w6 _ _ hs6 HS6.out; rw [(eqL_iff s s).2 rfl] at hvs; have HVS := Lib.hid hvs; have HT6 := Lib.hid (HT4.out.below hb8); clear hs6 hb8 hvs)
      | (go_at_call 8; refine HVS.out.mono ?_; rintro e w7 ⟨rfl, hb10⟩; have hb11 := below_then hb9 hb9.size hb10; have hit := sitems_calls n (treeK (ordF n) l .nil) (some ⟨tb, 0, none⟩) w7 _ (HT6.out.below hb10) (by rw [KS.out s HP3.out.1 HP3.out.2]; have h1 := once_len s; have h2 := HP3.out.1.length_eq; have h3 := HLN.out; omega); rw [KS.out s HP3.out.1 HP3.out.2] at hit; have HIT := Lib.hid hit; have HS7 := Lib.hid (HS6.out.below hb10); clear HVS hb10 hit)
      | (go_at_call 10; refine HIT.out.mono ?_; rintro e w8 ⟨v8, rfl, hs8, hb12⟩; have hb13 := below_then hb11 hb11.size hb12; have HS8 := Lib.hid hs8; have HON := Lib.hid (once_calls s v3 w8 _ (HS7.out.below hb12)); clear hs8 hb12)
      | (go_at_call 11; refine HON.out.mono ?_; rintro e w9 ⟨v9, rfl, hs9, hb14⟩; have hb15 := below_then hb13 hb13.size hb14; have hvs := sames_calls (onceL s) (onceL s) v8 v9 w9 _ _ (HS8.out.below hb14) hs9; rw [(eqL_iff (onceL s) (onceL s)).2 rfl] at hvs; have HVT := Lib.hid hvs; clear hs9 hb14 hvs)
      | (go_at_call 8; refine HVT.out.mono ?_; rintro e w10 ⟨rfl, hb16⟩; have hb17 := below_then hb15 hb15.size hb16; clear hb16)
      | (go_at_call 7; refine (HQU.out _ hb17).mono ?_; rintro e w11 ⟨rfl, hb18⟩))
    go_ret
    exact ⟨rfl, below_then hb17 hb17.size hb18⟩
  · obtain ⟨E, hE⟩ : ∃ E, errO o l = E := ⟨_, rfl⟩
    rw [hE] at HOF HST HSE h0
    have HOF := Lib.hid HOF
    have HST := Lib.hid HST
    have HSE := Lib.hid HSE
    have H0 := Lib.hid h0
    have z0 : (E == 0) = false := by simpa using h0
    have z1 : (E != 0) = true := by simpa using h0
    clear hl hT h0 hE
    go_enter Tryz.func3, Tryz.ntmps3
    go_wp2_with (first
      | (go_at_call 4; refine HOF.out.mono ?_; rintro e w2 ⟨hq, hb2⟩; obtain ⟨_, rfl⟩ := hq.resolve_left (fun h => H0.out h.1); have H2 := Lib.hid (HST.out w2 hb2); clear hq)
      | (go_at_call 5; refine H2.out.mono ?_; rintro e w3 ⟨hs, hb3⟩; obtain ⟨_, rfl⟩ := hs.resolve_left (fun h => H0.out h.1); have hb4 := below_then hb2 hb2.size hb3; have H3 := Lib.hid (HSE.out w3 hb4); clear hs hb3)
      | (go_at_call 6; refine H3.out.mono ?_; rintro e w4 ⟨ht, hb5⟩; obtain ⟨_, rfl⟩ := ht.resolve_left (fun h => H0.out h.1); have hb6 := below_then hb4 hb4.size hb5; clear ht hb5)
      | (go_at_call 7; refine (HQU.out _ hb6).mono ?_; rintro e w11 ⟨rfl, hb18⟩))
    go_ret
    exact ⟨rfl, below_then hb6 hb6.size hb18⟩
end Go.Proofs.YtmnblgaefdahhaaGreatDoor
