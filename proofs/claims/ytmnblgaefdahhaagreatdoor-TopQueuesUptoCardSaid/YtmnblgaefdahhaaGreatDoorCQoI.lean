/- Rows of right values, sorted by an order. -/
import Derived.Shelf.SlSortCmp.PdqK
import Derived.Test.YtmnblgaefdahhaaGreatDoorCQoH
import Derived.Test.YtmnblgaefdahhaaGreatDoorCSvD
import Derived.Test.YtmnblgaefdahhaaGreatDoorCBase
import Derived.Test.YtmnblgaefdahhaaGreatDoorCQpA

set_option linter.unusedVariables false
set_option linter.unusedSimpArgs false
namespace Go.Proofs.YtmnblgaefdahhaaGreatDoor
open Go.RowKit Go.Shelf Go.Sort
attribute [local go_sem] lt_succ_of

def CvOk (w : World) (S : Nat → Prop) (c : V × Option Addr × Nat) : Prop := V.Bd c.1 ∧ c.1.items.length ≤ c.2.2 ∧ LA w S c.1.items c.2.1 ∧ rightB c.1 = true
abbrev Cv (w : World) (S : Nat → Prop) := {c : V × Option Addr × Nat // CvOk w S c}
theorem right_zero : rightB V.zero = true := by
  unfold rightB
  refine decide_eq_true ⟨?_, ?_, ?_⟩
  · rw [V.zero, okAll, okAlls, Bool.and_true]
    exact (ok_0 0 _ []).2 ⟨rfl, rfl, rfl⟩
  · rw [V.zero, depthV_eq]; simp [V.items, depthL]
  · rw [V.zero, size_eq]; simp [V.items, V.sizes]
theorem cvOk_zero (w : World) (S : Nat → Prop) : CvOk w S (V.zero, none, 0) :=
  ⟨⟨by simp [V.zero, V.kind], by simp [V.zero, V.kind], by simp [V.zero, V.num], by simp [V.zero, V.num], Nat.zero_le _, by simp [V.zero, V.items]⟩, Nat.le_refl _, .inl rfl, right_zero⟩
instance (w : World) (S : Nat → Prop) : Inhabited (Cv w S) := ⟨⟨_, cvOk_zero w S⟩⟩
def encC {w : World} {S : Nat → Prop} (x : Cv w S) : List Value := [.int .i64 x.1.1.kind, .int .i64 x.1.1.num, .string x.1.1.text, .slice x.1.2.1 x.1.1.items.length x.1.2.2]
theorem encC_length {w : World} {S : Nat → Prop} (x : Cv w S) : (encC x).length = 4 := rfl
theorem encC_one {w : World} {S : Nat → Prop} (x : Cv w S) : ∀ v ∈ encC x, v.oneCell' = true := by
  intro v hv
  simp only [encC, List.mem_cons, List.not_mem_nil, or_false] at hv
  rcases hv with rfl | rfl | rfl | rfl <;> rfl
theorem cs_ds {w : World} {S : Nat → Prop} : ∀ {l : List V} {c : List Value}, CsL w S l c → (∀ x ∈ l, rightB x = true) → ∃ ds : List (Cv w S), ds.map (fun d => d.1.1) = l ∧ c = ds.flatMap encC
  | [], c, h, _ => by
    obtain rfl : c = [] := h
    exact ⟨[], rfl, rfl⟩
  | x :: l, c, h, hr => by
    obtain ⟨a, b, rfl, ha, hb⟩ := h
    obtain ⟨ds, h1, h2⟩ := cs_ds hb fun y hy => hr y (List.mem_cons_of_mem _ hy)
    obtain ⟨hbd, A, cap, rfl, hc, hA⟩ := ha.eq
    exact ⟨⟨(x, A, cap), hbd, hc, hA, hr x (List.mem_cons_self ..)⟩ :: ds, by rw [List.map_cons, h1], by rw [List.flatMap_cons, h2]; rfl⟩
theorem ds_cs {w w' : World} {S S' : Nat → Prop} (hk : Keeps w S w' S') : ∀ ds : List (Cv w S), CsL w' S' (ds.map (fun d => d.1.1)) (ds.flatMap encC)
  | [] => rfl
  | d :: ds => ⟨encC d, ds.flatMap encC, List.flatMap_cons, VC.mk d.2.1 d.2.2.1 (d.2.2.2.1.keep hk), ds_cs hk ds⟩
theorem flat_length {w : World} {S : Nat → Prop} (ds : List (Cv w S)) : (ds.flatMap encC).length = ds.length * 4 := by
  induction ds with
  | nil => rfl
  | cons d ds ih => rw [List.flatMap_cons, List.length_append, ih, encC_length, List.length_cons]; omega
theorem flat_get {w : World} {S : Nat → Prop} : ∀ (ds : List (Cv w S)) (t : Nat), t < ds.length * 4 → (ds.flatMap encC)[t]? = some ((encC ds[t / 4]!)[t % 4]!)
  | [], t, h => by simp at h
  | d :: ds, t, h => by
    rw [List.flatMap_cons, List.getElem?_append, encC_length]
    by_cases ht : t < 4
    · rw [if_pos ht, show t / 4 = 0 by omega, show t % 4 = t by omega]
      have : t = 0 ∨ t = 1 ∨ t = 2 ∨ t = 3 := by omega
      rcases this with rfl | rfl | rfl | rfl <;> rfl
    · rw [if_neg ht]
      rw [List.length_cons] at h
      rw [flat_get ds (t - 4) (by omega), show t / 4 = (t - 4) / 4 + 1 by omega, show t % 4 = (t - 4) % 4 by omega]
      simp
/-- A row of values at the beginning of a block. -/
def RowV (w : World) (g : Nat) (S : Nat → Prop) (l : List V) : Prop := ∃ c, CsL w S l c ∧ ∀ j u, c[j]? = some u → w.cell? ⟨g, j, none⟩ = some u ∧ w.frozen? ⟨g, j, none⟩ = false
theorem flatK_get {w : World} {S : Nat → Prop} (d : Array (Cv w S)) (j : Nat) (h : j < d.size * 4) : (flatK encC 4 d)[j]! = (encC d.toList[j / 4]!)[j % 4]! := by
  rw [get_flatK _ _ _ _ h]
  have h2 : j / 4 < d.size := by omega
  rw [getElem!_pos d _ h2, getElem!_pos d.toList _ (by simpa using h2)]
  rfl
theorem RowV.holds {w : World} {g : Nat} {S : Nat → Prop} {l : List V} (h : RowV w g S l) (hr : ∀ x ∈ l, rightB x = true) : ∃ d : Array (Cv w S), d.toList.map (fun d => d.1.1) = l ∧ HoldsK encC 4 w g 0 d := by
  obtain ⟨c, hc, hcell⟩ := h
  obtain ⟨ds, h1, rfl⟩ := cs_ds hc hr
  refine ⟨ds.toArray, h1, fun j hj => ?_⟩
  rw [size_flatK] at hj
  have hj2 : j < ds.length * 4 := by simpa using hj
  rw [Nat.zero_add, flatK_get _ _ hj]
  exact hcell j _ (flat_get ds j hj2)
theorem RowV.of_holds {w w' : World} {g : Nat} {S S' : Nat → Prop} (hk : Keeps w S w' S') (d : Array (Cv w S)) (h : HoldsK encC 4 w' g 0 d) : RowV w' g S' (d.toList.map (fun d => d.1.1)) := by
  refine ⟨d.toList.flatMap encC, ds_cs hk d.toList, fun j u hj => ?_⟩
  have hl : j < d.toList.length * 4 := by rw [← flat_length]; exact (List.getElem?_eq_some_iff.1 hj).1
  have hl2 : j < d.size * 4 := by simpa using hl
  have h2 := h j (by rw [size_flatK]; exact hl2)
  rw [Nat.zero_add, flatK_get _ _ hl2] at h2
  rw [flat_get _ _ hl] at hj
  injection hj with hj
  rw [← hj]
  exact h2
theorem stV : StP Tryz.prog 4 where
  mixed := by kernel_rfl
  f_swap := Tryz.func95
  e_swap := Tryz.call95
  f_rot := Tryz.func87
  e_rot := Tryz.call87
  f_sym := Tryz.func68
  e_sym := Tryz.call68
  f_ins := Tryz.func67
  e_ins := Tryz.call67
  f_stab := Tryz.func46
  e_stab := Tryz.call46
  f_top := Tryz.func31
  e_top := Tryz.call31
  t0 := Tryz.underlying0
  a0 := Tryz.isAgg0
  z0 := Tryz.sizeOf0
  v0 := Tryz.zeroValue0
  t3 := Tryz.underlying3
  a3 := Tryz.isAgg3
  z3 := Tryz.sizeOf3
  v3 := Tryz.zeroValue3
  t4 := Tryz.underlying4
  a4 := Tryz.isAgg4
  z4 := Tryz.sizeOf4
  v4 := Tryz.zeroValue4
  t80 := Tryz.underlying135
  a80 := Tryz.isAgg135
  z80 := Tryz.sizeOf135
  v80 := Tryz.zeroValue135
  t87 := Tryz.underlying22
  a87 := Tryz.isAgg22
  z87 := Tryz.sizeOf22
  v87 := Tryz.zeroValue22
  t114 := Tryz.underlying41
  a114 := Tryz.isAgg41
  z114 := Tryz.sizeOf41
  v114 := Tryz.zeroValue41
  aE := Tryz.isAgg39
  zE := Tryz.sizeOf39
def insRen : Go.Shelf.Ren := ⟨fun | 20 => 67 | n => n, fun | 22 => 22 | 24 => 39 | 25 => 41 | n => n, fun | n => n⟩
theorem insL : SlLaysF0.n20 Tryz.prog insRen where
  mixed := by kernel_rfl
  f20 := ⟨Tryz.f67.name, by decide, Tryz.func67.trans (congrArg some (by kernel_rfl))⟩
  t0 := Tryz.underlying0
  a0 := Tryz.isAgg0
  z0 := Tryz.sizeOf0
  v0 := Tryz.zeroValue0
  t3 := Tryz.underlying3
  a3 := Tryz.isAgg3
  z3 := Tryz.sizeOf3
  v3 := Tryz.zeroValue3
  t4 := Tryz.underlying4
  a4 := Tryz.isAgg4
  z4 := Tryz.sizeOf4
  v4 := Tryz.zeroValue4
  t22 := Tryz.underlying22
  a22 := Tryz.isAgg22
  z22 := Tryz.sizeOf22
  v22 := Tryz.zeroValue22
  t25 := Tryz.underlying41
  a25 := Tryz.isAgg41
  z25 := Tryz.sizeOf41
  v25 := Tryz.zeroValue41
def cfO (c : V → V → Int) {w : World} {S : Nat → Prop} (x y : Cv w S) : Int := c x.1.1 y.1.1
theorem ltO_iff (c : V → V → Int) {w : World} {S : Nat → Prop} (x y : Cv w S) : ltOf (cfO c) x y = decide (c x.1.1 y.1.1 < 0) := rfl
theorem swoO {c : V → V → Int} (hc : Ordr c) (w : World) (S : Nat → Prop) : SWO (ltOf (cfO c (w := w) (S := S))) where
  irrefl x := by
    have h := hc.flip x.1.1 x.1.1
    rw [ltO_iff]
    exact decide_eq_false (by omega)
  trans x y z h1 h2 := by
    have h := hc.tri x.1.1 y.1.1 z.1.1
    unfold Tri at h
    rw [ltO_iff] at h1 h2 ⊢
    have k1 := of_decide_eq_true h1
    have k2 := of_decide_eq_true h2
    exact decide_eq_true (by omega)
  ntrans x y z h1 h2 := by
    have h3 := hc.tri z.1.1 y.1.1 x.1.1
    have f1 := hc.flip x.1.1 y.1.1
    have f2 := hc.flip y.1.1 z.1.1
    have f3 := hc.flip x.1.1 z.1.1
    unfold Tri at h3
    rw [ltO_iff] at h1 h2 ⊢
    have k1 := of_decide_eq_false h1
    have k2 := of_decide_eq_false h2
    exact decide_eq_false (by omega)
theorem sw_heap {w : World} {S : Nat → Prop} (g m b : Nat) (dk : Array (Cv w S)) (os : Array Obj) (hb : b < w.heap.size) (hne : b ≠ g) : (sortWorldK encC 4 w g 0 m dk os).heap[b]? = w.heap[b]? := by
  have h1 : ∀ f, (w.heap.modify g f)[b]? = w.heap[b]? := fun f => by rw [Array.getElem?_modify, if_neg (Ne.symm hne)]
  show ((w.heap.modify g _) ++ os)[b]? = _
  rw [Array.getElem?_append_left (by rw [Array.size_modify]; exact hb), h1]
theorem sw_but {w : World} {S : Nat → Prop} (g m : Nat) (dk : Array (Cv w S)) (os : Array Obj) : But (· = g) w (sortWorldK encC 4 w g 0 m dk os) :=
  ⟨rfl, rfl, rfl, by show _ ≤ ((w.heap.modify g _) ++ os).size; rw [Array.size_append, Array.size_modify]; omega, fun b hb hne => sw_heap g m b dk os hb hne⟩
theorem tabs_but {M : Nat → Prop} {a b : Nat} {w w' : World} (h : Lib.Utf8Tabs a b w) (hb : But M w w') (ha : ¬ M a) (hb2 : ¬ M b) : Lib.Utf8Tabs a b w' := by
  obtain ⟨h1, h2⟩ := h
  have hla := World.block_lt_of_cell? w _ (h1 0 (by omega))
  have hlb := World.block_lt_of_cell? w _ (h2 0 (by omega)).1
  exact ⟨fun c hc => (World.cell?_of_block (hb.block a hla ha)).trans (h1 c hc), fun i hi => ⟨(World.cell?_of_block (hb.block b hlb hb2)).trans (h2 i hi).1, (World.cell?_of_block (hb.block b hlb hb2)).trans (h2 i hi).2⟩⟩
theorem cmpLaysO {c : V → V → Int} (w : World) (S : Nat → Prop) (f : Nat) (cb : Array Value) (B : Nat → Prop) (hB : ∀ b, B b → b < w.heap.size) (hat : ∀ w', (∀ b, B b → w'.heap[b]? = w.heap[b]?) → CmprAt c f cb w') (g : Nat) (hgB : ¬ B g) (hS : ∀ b, S b → b ≠ g) (hT : Lib.Utf8Tabs 1 2 w) (hg1 : g ≠ 1) (hg2 : g ≠ 2) (n : Nat) :
    CmpLays Tryz.prog f cb (encC (w := w) (S := S)) 4 (cfO c) g 0 n w := by
  intro m os dk _ x y
  have hk : Keeps w S (sortWorldK encC 4 w g 0 m dk os) S := (sw_but g m dk os).keeps hS
  have hx : ∀ z : Cv w S, IsV (sortWorldK encC 4 w g 0 m dk os) S z.1.1 (.agg (encC z).toArray) := fun z => ⟨encC z, VC.mk z.2.1 z.2.2.1 (z.2.2.2.1.keep hk), rfl⟩
  refine (hat _ (fun b hb => (sw_but g m dk os).block b (hB b hb) (fun e => hgB (e ▸ hb))) x.1.1 y.1.1 _ _ S S (hx x) (hx y) x.2.2.2.2 y.2.2.2.2 (tabs_but hT (sw_but g m dk os) (fun e => hg1 e.symm) (fun e => hg2 e.symm))).mono ?_
  rintro e w' ⟨rfl, hb⟩
  exact ⟨rfl, hb.grow⟩
set_option maxRecDepth 100000 in
theorem sortO_calls {c : V → V → Int} (hc : Ordr c) (l : List V) (hr : ∀ x ∈ l, rightB x = true) (g cap : Nat) (w : World) (S : Nat → Prop) (hS : ∀ b, S b → b ≠ g) (hR : RowV w g S l) (hg : g < w.heap.size) (hl : l.length ≤ 65536)
    (f : Nat) (cb : Array Value) (B : Nat → Prop) (eg : ∀ args w, (callFunc f args).run Tryz.prog w = .ok (.enter f args) w) (hB : ∀ b, B b → b < w.heap.size) (hat : ∀ w', (∀ b, B b → w'.heap[b]? = w.heap[b]?) → CmprAt c f cb w') (hgB : ¬ B g) (hT : Lib.Utf8Tabs 1 2 w) (hg1 : g ≠ 1) (hg2 : g ≠ 2) :
    Calls Tryz.prog 31 #[.slice (some ⟨g, 0, none⟩) l.length cap, .func (.func f) #[] cb] w fun e w' => e = .returned (.tuple #[]) ∧ ∃ l', l'.Perm l ∧ SortC c l' ∧ RowV w' g S l' ∧ But (· = g) w w' := by
  obtain ⟨d, rfl, hH⟩ := hR.holds hr
  have hls : (d.toList.map fun d => d.1.1).length = d.size := by rw [List.length_map]; rfl
  rw [hls] at hl ⊢
  have R : RowK (encC (w := w) (S := S)) 4 w g 0 d := ⟨encC_length, encC_one, hH, hg⟩
  have hcmp := cmpLaysO w S f cb B hB hat g hgB hS hT hg1 hg2 d.size
  have ins : InsAt Tryz.prog (encC (w := w) (S := S)) (cfO c) 4 f cb g 0 cap d w := fun a b d1 w1 hab hb hs hS1 => by
    refine (AnyQ.insertionSortCmpFunc_w insL 4 Tryz.isAgg39 Tryz.sizeOf39 encC (cfO c) f cb g 0 cap a b d d1 w w1 eg hcmp R hs hS1 (swoO hc w S) hab hb (by omega)).mono ?_
    rintro e w' ⟨rfl, h⟩
    obtain ⟨p, s⟩ := insertionSort_holds (lt := ltOf (cfO c)) (swoO hc w S) d1 a b hab hb
    exact ⟨rfl, _, h, p, s⟩
  refine (sortStable_calls stV encC (cfO c) f cb g 0 cap d d w w eg hcmp (swoO hc w S) R rfl (SWK.start hH) hl ins).mono ?_
  rintro e w' ⟨rfl, d', ⟨m, os, rfl⟩, hp, hs⟩
  obtain ⟨hps, _, hpp⟩ := hp
  have hex : ∀ a : Array (Cv w S), a.size = d.size → a.extract 0 d.size = a := fun a h => by rw [← h]; exact Array.extract_size ..
  rw [hex d rfl, hex d' hps] at hpp
  have hk : Keeps w S (sortWorldK encC 4 w g 0 m d' os) S := (sw_but g m d' os).keeps hS
  refine ⟨rfl, _, hpp.map _, ?_, RowV.of_holds hk d' ?_, sw_but g m d' os⟩
  · unfold SortC
    rw [List.pairwise_map, List.pairwise_iff_getElem]
    intro i j hi hj hij
    have hj2 : j < d.size := by rw [← hps]; simpa using hj
    have h1 := hs i j (Nat.zero_le _) hij hj2
    have h2 : ¬ c (d'[j]!).1.1 (d'[i]!).1.1 < 0 := of_decide_eq_false h1
    have h3 := hc.flip (d'[i]!).1.1 (d'[j]!).1.1
    rw [getElem!_pos d' i (by omega), getElem!_pos d' j (by omega)] at h2 h3
    show c (d'[i]).1.1 (d'[j]).1.1 ≤ 0
    omega
  · unfold sortWorldK
    refine holdsK_grow _ _ _ _ _ _ _ ?_ (holdsK_putRowK _ _ _ _ _ d d' (holdsK_ahead _ _ _ _ _ _ _ hH) hps)
    show g < (w.heap.modify g _).size
    rw [Array.size_modify]
    exact hg
end Go.Proofs.YtmnblgaefdahhaaGreatDoor
