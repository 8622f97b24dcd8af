/- The reader's forms, one by one. -/
import Derived.Test.YtoiipdknamgcmaaGreatDoorCRdN

set_option linter.unusedVariables false
set_option linter.unusedSimpArgs false
namespace Go.Proofs.YtoiipdknamgcmaaGreatDoor
open Go.RowKit Go.Shelf
attribute [local go_sem] lt_succ_of

theorem formF_nil (m : Bool) (n d f : Nat) : formF m (n + 1) d f [] = .bad 21 0 := by rw [formF]
theorem formF_cons (m : Bool) (n d f : Nat) (c : UInt8) (t : Bs) : formF m (n + 1) d f (c :: t) =
    if c = 41 ∨ c = 93 ∨ c = 125 then .bad 22 (t.length + 1)
    else if 16 < d then .bad 27 (t.length + 1)
    else if 1024 < f + 1 then .bad 28 (t.length + 1)
    else if c = 34 then (textF (t.length + 1) t).next fun p => if 256 < p.1.length then .bad 2 (t.length + 1) else .ok (V.str ⟨p.1.toArray⟩, f + 1, p.2)
    else if c = 40 then (itemsF m n 41 (d + 1) (f + 1) t).next fun p => .ok (V.lst p.1, p.2.1, p.2.2.tail)
    else if c = 91 then (itemsF m n 93 (d + 1) (f + 1) t).next fun p => .ok (V.lst p.1, p.2.1, p.2.2.tail)
    else if c = 123 then pairsR m n d (f + 1) (t.length + 1) t
    else if c = 35 then (if t.head? = some 123 then (itemsF m n 125 (d + 1) (f + 1) t.tail).next fun p => (setR p.1 (t.length + 1)).next fun v => .ok (v, p.2.1, p.2.2.tail) else .bad 22 (t.length + 1))
    else (wordV (wordL (c :: t)) (t.length + 1)).next fun v => .ok (v, f + 1, restL (c :: t)) := by rw [formF]; rfl
theorem Rdr.counted {w : World} {rb : Nat} {s : ByteArray} {p f : Nat} (h : Rdr w rb s p f) (n : Nat) (hf : f + 1 ≤ 1024) : Rdr ((w.drewN n).setCell ⟨rb, 2, none⟩ (.int .i64 ((f : Int) + 1))) rb s p (f + 1) :=
  h.but (But.set (M := fun k => k = rb) ((But.of (Below.refl _ _)).drewN n) (.inr rfl) _) (blockset (w := w.drewN n) h.at' 2 _) h.place hf
theorem but_counted (w : World) (rb n : Nat) (v : Value) : But (· = rb) w ((w.drewN n).setCell ⟨rb, 2, none⟩ v) := But.set (M := fun k => k = rb) ((But.of (Below.refl _ _)).drewN n) (.inr rfl) _
/-- The result is laid into its box. -/
theorem str_is (T : ByteArray) (hs : T.size ≤ 140737488355328) (w : World) (S : Nat → Prop) : IsV w S (V.str T) (.agg #[.int .i64 3, .int .i64 0, .string T, .slice none 0 0]) :=
  IsV.mk (x := V.str T) (A := none) (cap := 0) ⟨show (-9223372036854775808 : Int) ≤ 3 by decide, show (3 : Int) ≤ 9223372036854775807 by decide, show (-9223372036854775808 : Int) ≤ 0 by decide, show (0 : Int) ≤ 9223372036854775807 by decide, hs, show 0 ≤ 4294967296 by decide⟩ (Nat.le_refl _) (.inl rfl)
theorem ws_of {M : Nat → Prop} {w1 W w3 : World} (_h : But M W w3) (hm : But M w1 W) : w1.heap.size ≤ W.heap.size := hm.size
theorem lst_is {W : World} {S : Nat → Prop} {l : List V} {A : Option Addr} {c : Nat} (h : IsS W S l (.slice A l.length c)) : IsV W S (V.lst l) (.agg #[.int .i64 4, .int .i64 0, .string ⟨#[]⟩, .slice A l.length c]) := by
  obtain ⟨A', c', he, hc, hl, hA⟩ := h
  injection he with e1 e2 e3
  subst e1
  subst e3
  exact IsV.mk (x := V.lst l) ⟨by simp [V.lst, V.kind], by simp [V.lst, V.kind], by simp [V.lst, V.num], by simp [V.lst, V.num], Nat.zero_le _, hl⟩ hc hA
theorem keep_rb {w w1 W w3 : World} {rb : Nat} (hrbw : rb < w.heap.size) (hsz1 : w.heap.size < w1.heap.size) (hws : w1.heap.size ≤ W.heap.size) (i : Nat) (v : Value) : Keeps w3 (fun b => W.heap.size ≤ b) (w3.setCell ⟨rb, i, none⟩ v) (fun b => w.heap.size < b) :=
  fun b _ hs => ⟨Nat.lt_of_lt_of_le hsz1 (Nat.le_trans hws hs), Below.heap_setCell _ _ _ _ (fun e => by have h1 : W.heap.size ≤ b := hs; have h2 : b = rb := e; omega)⟩
theorem weak_up {w w1 W w3 : World} (hsz1 : w.heap.size < w1.heap.size) (hws : w1.heap.size ≤ W.heap.size) : Keeps w3 (fun b => W.heap.size ≤ b) w3 (fun b => w.heap.size < b) :=
  Keeps.weak fun b h => Nat.lt_of_lt_of_le hsz1 (Nat.le_trans hws h)
theorem parse_range {w : Bs} {n : Int} (h : Lib.parseIntB 64 w = .ok n) : -9223372036854775808 ≤ n ∧ n ≤ 9223372036854775807 := by
  cases w with
  | nil => cases h
  | cons c r =>
    unfold Lib.parseIntB at h
    dsimp only at h
    split at h
    · cases h
    · cases h
    · split at h
      · cases h
      split at h
      · cases h
      · injection h with h
        rename_i h1 h2
        split at h
        · omega
        · omega
theorem word_atom {W : Bs} {k : Nat} {a : V} (h : wordV W k = .ok a) : ∀ (w : World) (S : Nat → Prop), IsV w S a (atomV a) := by
  have key : ∀ (kd n : Int), 0 ≤ kd → kd ≤ 6 → -9223372036854775808 ≤ n → n ≤ 9223372036854775807 → ∀ (w : World) (S : Nat → Prop), IsV w S (.mk kd n ⟨#[]⟩ []) (atomV (.mk kd n ⟨#[]⟩ [])) := fun kd n h1 h2 h3 h4 w S =>
    IsV.mk (x := .mk kd n ⟨#[]⟩ []) (A := none) (cap := 0) ⟨(show (-9223372036854775808 : Int) ≤ kd by omega), (show kd ≤ 9223372036854775807 by omega), h3, h4, Nat.zero_le _, Nat.zero_le _⟩ (Nat.le_refl _) (.inl rfl)
  unfold wordV at h
  split at h
  · injection h with h; subst h; exact key 0 0 (by decide) (by decide) (by decide) (by decide)
  split at h
  · injection h with h; subst h; exact key 1 1 (by decide) (by decide) (by decide) (by decide)
  split at h
  · injection h with h; subst h; exact key 1 0 (by decide) (by decide) (by decide) (by decide)
  split at h
  · cases h
  split at h
  · cases h
  · cases h
  · rename_i n hn
    injection h with h; subst h
    unfold numL at hn
    split at hn
    · split at hn
      · split at hn
        · cases hn
        · rename_i m hm _
          injection hn with hn
          injection hn with hn
          subst hn
          have := parse_range hm
          exact key 2 _ (by decide) (by decide) this.1 this.2
      · cases hn
    · cases hn
theorem form_ret {w W0 : World} {rb q g : Nat} {s : ByteArray} {x : V} {c0 c1 c2 c3 : Value} {rest : Bs} (hrbw : rb < w.heap.size) (hv : IsV W0 (fun b => w.heap.size < b) x (.agg #[c0, c1, c2, c3])) (hq : q ≤ s.size) (hR : RdAt W0 rb s q g) (hs : sfx s q = rest) (hB : But (· = rb) w W0) :
    PostM (· = rb) s w (.ok (x, g, rest)) (FormG rb s w.heap.size) (.returned (.agg #[c0, c1, c2, c3])) ((((W0.setCell ⟨w.heap.size, 0, none⟩ c0).setCell ⟨w.heap.size, 1, none⟩ c1).setCell ⟨w.heap.size, 2, none⟩ c2).setCell ⟨w.heap.size, 3, none⟩ c3) := by
  have hn2 : rb ≠ w.heap.size := Nat.ne_of_lt hrbw
  have hn : ∀ a : Addr, a.block = w.heap.size → ¬ (fun b => w.heap.size < b) a.block := fun a h (h2 : w.heap.size < a.block) => by omega
  refine ⟨⟨_, rfl, (hv.keep (S' := fun b => w.heap.size < b) ?_).keep (Keeps.weak fun b (h : w.heap.size < b) => Nat.le_of_lt h), q, hq, (((hR.other hn2 _).other hn2 _).other hn2 _).other hn2 _, hs⟩, (((hB.set (.inl (Nat.le_refl _)) _).set (.inl (Nat.le_refl _)) _).set (.inl (Nat.le_refl _)) _).set (.inl (Nat.le_refl _)) _⟩
  refine Keeps.set_after ?_ (hn _ rfl) _
  refine Keeps.set_after ?_ (hn _ rfl) _
  refine Keeps.set_after ?_ (hn _ rfl) _
  refine Keeps.set_after ?_ (hn _ rfl) _
  exact Keeps.refl _ _
theorem pre_other {c : UInt8} {t : Bs} (h : c ≠ 35) : Lib.hasPrefix (c :: t) [35, 123] = false := by
  unfold Lib.hasPrefix
  rw [List.isPrefixOf_cons_cons, show ((35 : UInt8) == c) = false by rw [beq_eq_false_iff_ne]; exact fun e => h e.symm]
  rfl
theorem pre_hash (t : Bs) : Lib.hasPrefix (35 :: t) [35, 123] = decide (t.head? = some 123) := by
  unfold Lib.hasPrefix
  cases t with
  | nil => rfl
  | cons c t =>
    rw [List.isPrefixOf_cons_cons, List.isPrefixOf_cons_cons, List.isPrefixOf_nil_left, Bool.and_true, List.head?_cons]
    rw [Bool.eq_iff_iff, Bool.and_eq_true, beq_iff_eq, beq_iff_eq, decide_eq_true_iff, Option.some.injEq]
    exact ⟨fun h => h.2.symm, fun h => ⟨rfl, h.symm⟩⟩
set_option maxRecDepth 100000 in
set_option maxHeartbeats 8000000 in
theorem form_step (m : Bool) (n : Nat) (ih : AllAt m n) (hS : SetC) (hPA : ∀ k, ItemsAt m k → PairsAt m k) : FormAt m (n + 1) := by
  intro d f p rb s w hr hd hout
  have hb := byteAt_eq s
  have hs16 := hr.len
  have hp := hr.place
  have hrbw : rb < w.heap.size := hr.at'.lt
  have hI : ItemsAt m n := (ih n (Nat.le_refl _)).2.2
  have HPA := Lib.hid (hPA n hI)
  have HI := Lib.hid hI
  obtain ⟨w1, hw1, hB1, hsz1, hb1⟩ := box1 w (.int .i64 0) (.int .i64 0) (.string ⟨#[]⟩) (.slice none 0 0) 24
  have hr1 := hr.keep hB1
  obtain ⟨a0, a1, a2, g1, g2⟩ := hr1.at'.cells
  have HR1 := Lib.hid hr1
  have HB1 := Lib.hid (But.of (M := fun k => k = rb) hB1)
  have hfw : IntKind.i64.wrap ((f : Int) + 1) = (f : Int) + 1 := IntWalk.i64_in _ (by have := hr.forms; omega)
  have hdw : IntKind.i64.wrap ((d : Int) + 1) = (d : Int) + 1 := IntWalk.i64_in _ (by omega)
  clear ih hPA hI
  by_cases hpe : p = s.size
  · subst hpe
    rw [sfx_end (Nat.le_refl _), formF_nil]
    have hj : ((s.size : Int) == (s.size : Int)) = true := by simp
    clear hout
    go_enter Tryz.func24, Tryz.ntmps24
    go_wp2_with fail
    go_quiet (fail)
    go_wp2_with (go_at_call 25; refine (fail_calls _ _ _ _).mono ?_; rintro e w8 ⟨rfl, rfl⟩)
    exact ⟨rfl, rfl, HB1.out.drewN _⟩
  have hlt : p < s.size := by omega
  have hj : ((p : Int) == (s.size : Int)) = false := by rw [beq_eq_false_iff_ne]; omega
  have hjl : (p : Int) < (s.size : Int) := by omega
  have hjp : (p : Int) ≤ (s.size : Int) := by omega
  obtain ⟨b, hbb⟩ : ∃ b, byteAt s p = b := ⟨_, rfl⟩
  have hbt : s[p].toNat = b := (hb p hlt).trans hbb
  have hcons := sfx_cons hlt
  have hlen : (sfx s (p + 1)).length + 1 = s.size - p := by rw [sfx_length]; omega
  have hpp : s.size - (s.size - p) = p := by omega
  have hne : ∀ k : UInt8, b ≠ k.toNat → s[p] ≠ k := fun k h e => h (by rw [← hbt, e])
  have HP := Lib.hid fun W => Tryz.strings_HasPrefix (s.extract p s.size) ⟨#[35, 123]⟩ W
  rw [rest_bytes] at HP
  change Hid (∀ W, Calls _ _ _ W fun e w' => e = .returned (.bool (Lib.hasPrefix (sfx s p) [35, 123])) ∧ w' = W) at HP
  rw [hcons, formF_cons, hlen] at hout ⊢
  rw [hcons] at HP
  by_cases k41 : b = 41
  · subst k41
    have h0 : s[p] = 41 := UInt8.toNat_inj.1 hbt
    rw [h0, if_pos (by decide)]
    unfold PostM
    dsimp only
    rw [hpp]
    clear hout HP h0 hbt hcons hne
    go_enter Tryz.func24, Tryz.ntmps24
    go_wp2_with (first | (go_at_call 25; refine (fail_calls _ _ _ _).mono ?_; rintro e w8 ⟨rfl, rfl⟩) | (go_at_call 39; refine (HP.out _).mono ?_; rintro e w9 ⟨rfl, rfl⟩))
    try (go_quiet ((go_at_call 39; exact (HP.out _).mono fun _ _ hh => ⟨hh.1, _, hh.2⟩)); go_wp2_with (first | (go_at_call 25; refine (fail_calls _ _ _ _).mono ?_; rintro e w8 ⟨rfl, rfl⟩) | (go_at_call 39; refine (HP.out _).mono ?_; rintro e w9 ⟨rfl, rfl⟩)))
    try (go_quiet ((go_at_call 39; exact (HP.out _).mono fun _ _ hh => ⟨hh.1, _, hh.2⟩)); go_wp2_with (first | (go_at_call 25; refine (fail_calls _ _ _ _).mono ?_; rintro e w8 ⟨rfl, rfl⟩) | (go_at_call 39; refine (HP.out _).mono ?_; rintro e w9 ⟨rfl, rfl⟩)))
    try (go_quiet ((go_at_call 39; exact (HP.out _).mono fun _ _ hh => ⟨hh.1, _, hh.2⟩)); go_wp2_with (first | (go_at_call 25; refine (fail_calls _ _ _ _).mono ?_; rintro e w8 ⟨rfl, rfl⟩) | (go_at_call 39; refine (HP.out _).mono ?_; rintro e w9 ⟨rfl, rfl⟩)))
    exact ⟨rfl, rfl, by repeat first | exact HB1.out | refine But.drewN ?_ _⟩
  by_cases k93 : b = 93
  · subst k93
    have h0 : s[p] = 93 := UInt8.toNat_inj.1 hbt
    rw [h0, if_pos (by decide)]
    unfold PostM
    dsimp only
    rw [hpp]
    clear hout HP h0 hbt hcons hne
    go_enter Tryz.func24, Tryz.ntmps24
    go_wp2_with (first | (go_at_call 25; refine (fail_calls _ _ _ _).mono ?_; rintro e w8 ⟨rfl, rfl⟩) | (go_at_call 39; refine (HP.out _).mono ?_; rintro e w9 ⟨rfl, rfl⟩))
    try (go_quiet ((go_at_call 39; exact (HP.out _).mono fun _ _ hh => ⟨hh.1, _, hh.2⟩)); go_wp2_with (first | (go_at_call 25; refine (fail_calls _ _ _ _).mono ?_; rintro e w8 ⟨rfl, rfl⟩) | (go_at_call 39; refine (HP.out _).mono ?_; rintro e w9 ⟨rfl, rfl⟩)))
    try (go_quiet ((go_at_call 39; exact (HP.out _).mono fun _ _ hh => ⟨hh.1, _, hh.2⟩)); go_wp2_with (first | (go_at_call 25; refine (fail_calls _ _ _ _).mono ?_; rintro e w8 ⟨rfl, rfl⟩) | (go_at_call 39; refine (HP.out _).mono ?_; rintro e w9 ⟨rfl, rfl⟩)))
    try (go_quiet ((go_at_call 39; exact (HP.out _).mono fun _ _ hh => ⟨hh.1, _, hh.2⟩)); go_wp2_with (first | (go_at_call 25; refine (fail_calls _ _ _ _).mono ?_; rintro e w8 ⟨rfl, rfl⟩) | (go_at_call 39; refine (HP.out _).mono ?_; rintro e w9 ⟨rfl, rfl⟩)))
    exact ⟨rfl, rfl, by repeat first | exact HB1.out | refine But.drewN ?_ _⟩
  by_cases k125 : b = 125
  · subst k125
    have h0 : s[p] = 125 := UInt8.toNat_inj.1 hbt
    rw [h0, if_pos (by decide)]
    unfold PostM
    dsimp only
    rw [hpp]
    clear hout HP h0 hbt hcons hne
    go_enter Tryz.func24, Tryz.ntmps24
    go_wp2_with (first | (go_at_call 25; refine (fail_calls _ _ _ _).mono ?_; rintro e w8 ⟨rfl, rfl⟩) | (go_at_call 39; refine (HP.out _).mono ?_; rintro e w9 ⟨rfl, rfl⟩))
    try (go_quiet ((go_at_call 39; exact (HP.out _).mono fun _ _ hh => ⟨hh.1, _, hh.2⟩)); go_wp2_with (first | (go_at_call 25; refine (fail_calls _ _ _ _).mono ?_; rintro e w8 ⟨rfl, rfl⟩) | (go_at_call 39; refine (HP.out _).mono ?_; rintro e w9 ⟨rfl, rfl⟩)))
    try (go_quiet ((go_at_call 39; exact (HP.out _).mono fun _ _ hh => ⟨hh.1, _, hh.2⟩)); go_wp2_with (first | (go_at_call 25; refine (fail_calls _ _ _ _).mono ?_; rintro e w8 ⟨rfl, rfl⟩) | (go_at_call 39; refine (HP.out _).mono ?_; rintro e w9 ⟨rfl, rfl⟩)))
    try (go_quiet ((go_at_call 39; exact (HP.out _).mono fun _ _ hh => ⟨hh.1, _, hh.2⟩)); go_wp2_with (first | (go_at_call 25; refine (fail_calls _ _ _ _).mono ?_; rintro e w8 ⟨rfl, rfl⟩) | (go_at_call 39; refine (HP.out _).mono ?_; rintro e w9 ⟨rfl, rfl⟩)))
    exact ⟨rfl, rfl, by repeat first | exact HB1.out | refine But.drewN ?_ _⟩
  rw [if_neg (show ¬ (s[p] = 41 ∨ s[p] = 93 ∨ s[p] = 125) by rintro (h | h | h); exact hne 41 k41 h; exact hne 93 k93 h; exact hne 125 k125 h)] at hout ⊢
  have q41 : ((b : Int) == 41) = false := by rw [beq_eq_false_iff_ne]; omega
  have q93 : ((b : Int) == 93) = false := by rw [beq_eq_false_iff_ne]; omega
  have q125 : ((b : Int) == 125) = false := by rw [beq_eq_false_iff_ne]; omega
  by_cases kd : 16 < d
  · rw [if_pos kd]
    unfold PostM
    dsimp only
    rw [hpp]
    have d1 : decide ((16 : Int) < (d : Int)) = true := decide_eq_true (by omega)
    clear hout HP hbt hcons hne k41 k93 k125
    go_enter Tryz.func24, Tryz.ntmps24
    go_wp2_with (first | (go_at_call 25; refine (fail_calls _ _ _ _).mono ?_; rintro e w8 ⟨rfl, rfl⟩) | (go_at_call 39; refine (HP.out _).mono ?_; rintro e w9 ⟨rfl, rfl⟩))
    try (go_quiet ((go_at_call 39; exact (HP.out _).mono fun _ _ hh => ⟨hh.1, _, hh.2⟩)); go_wp2_with (first | (go_at_call 25; refine (fail_calls _ _ _ _).mono ?_; rintro e w8 ⟨rfl, rfl⟩) | (go_at_call 39; refine (HP.out _).mono ?_; rintro e w9 ⟨rfl, rfl⟩)))
    try (go_quiet ((go_at_call 39; exact (HP.out _).mono fun _ _ hh => ⟨hh.1, _, hh.2⟩)); go_wp2_with (first | (go_at_call 25; refine (fail_calls _ _ _ _).mono ?_; rintro e w8 ⟨rfl, rfl⟩) | (go_at_call 39; refine (HP.out _).mono ?_; rintro e w9 ⟨rfl, rfl⟩)))
    try (go_quiet ((go_at_call 39; exact (HP.out _).mono fun _ _ hh => ⟨hh.1, _, hh.2⟩)); go_wp2_with (first | (go_at_call 25; refine (fail_calls _ _ _ _).mono ?_; rintro e w8 ⟨rfl, rfl⟩) | (go_at_call 39; refine (HP.out _).mono ?_; rintro e w9 ⟨rfl, rfl⟩)))
    exact ⟨rfl, rfl, by repeat first | exact HB1.out | refine But.drewN ?_ _⟩
  rw [if_neg kd] at hout ⊢
  have d1 : decide ((16 : Int) < (d : Int)) = false := decide_eq_false (by omega)
  have hd16 : d ≤ 16 := by omega
  by_cases kf : 1024 < f + 1
  · rw [if_pos kf]
    unfold PostM
    dsimp only
    rw [hpp]
    have f1' : decide ((1024 : Int) < (f : Int) + 1) = true := decide_eq_true (by omega)
    have hf1 : (1024 : Int) < (f : Int) + 1 := by omega
    clear hout HP hbt hcons hne k41 k93 k125
    go_enter Tryz.func24, Tryz.ntmps24
    go_wp2_with (first | (go_at_call 25; refine (fail_calls _ _ _ _).mono ?_; rintro e w8 ⟨rfl, rfl⟩) | (go_at_call 39; refine (HP.out _).mono ?_; rintro e w9 ⟨rfl, rfl⟩))
    try (go_quiet ((go_at_call 39; exact (HP.out _).mono fun _ _ hh => ⟨hh.1, _, hh.2⟩)); go_wp2_with (first | (go_at_call 25; refine (fail_calls _ _ _ _).mono ?_; rintro e w8 ⟨rfl, rfl⟩) | (go_at_call 39; refine (HP.out _).mono ?_; rintro e w9 ⟨rfl, rfl⟩)))
    try (go_quiet ((go_at_call 39; exact (HP.out _).mono fun _ _ hh => ⟨hh.1, _, hh.2⟩)); go_wp2_with (first | (go_at_call 25; refine (fail_calls _ _ _ _).mono ?_; rintro e w8 ⟨rfl, rfl⟩) | (go_at_call 39; refine (HP.out _).mono ?_; rintro e w9 ⟨rfl, rfl⟩)))
    try (go_quiet ((go_at_call 39; exact (HP.out _).mono fun _ _ hh => ⟨hh.1, _, hh.2⟩)); go_wp2_with (first | (go_at_call 25; refine (fail_calls _ _ _ _).mono ?_; rintro e w8 ⟨rfl, rfl⟩) | (go_at_call 39; refine (HP.out _).mono ?_; rintro e w9 ⟨rfl, rfl⟩)))
    exact ⟨rfl, rfl, HB1.out.trans (by first | exact but_counted _ _ _ _ | exact (but_counted _ _ _ _).drewN _)⟩
  rw [if_neg kf] at hout ⊢
  have f1' : decide ((1024 : Int) < (f : Int) + 1) = false := decide_eq_false (by omega)
  have hf1 : ¬ (1024 : Int) < (f : Int) + 1 := by omega
  have hf2 : f + 1 ≤ 1024 := by omega
  have HF2 := Lib.hid hf2
  have hne1 : ¬ w.heap.size = rb := Nat.ne_of_gt hrbw
  have hne2 : ¬ rb = w.heap.size := Nat.ne_of_lt hrbw
  by_cases k34 : b = 34
  · subst k34
    have h0 : s[p] = 34 := UInt8.toNat_inj.1 hbt
    rw [h0, if_pos rfl] at hout ⊢
    have HTX := Lib.hid fun W (hW : Rdr W rb s p (f + 1)) => text_calls rb s p (f + 1) W hW.at' hlt hs16 hW.tabs hW.big
    clear HP h0 hbt hcons hne k41 k93 k125 kd kf
    cases hA : textF (s.size - p) (sfx s (p + 1)) with
    | out => rw [hA] at hout; exact absurd rfl hout
    | bad er kk =>
      rw [hA] at HTX
      rw [R.next_bad]
      clear hout hA
      go_enter Tryz.func24, Tryz.ntmps24
      go_wp2_with (first | (go_at_call 40; refine (HTX.out _ (by first | exact HR1.out.counted _ HF2.out | exact HR1.out.counted 0 HF2.out | exact (HR1.out.counted _ HF2.out).keep (belowN _ _ _))).mono ?_; rintro e w3 ⟨rfl, hb3⟩; have HB4 := Lib.hid (HB1.out.trans (((show But (· = rb) w1 _ by first | exact but_counted _ _ _ _ | exact but_counted _ _ 0 _ | exact (but_counted _ _ _ _).drewN _)).trans hb3))) | (go_at_call 39; refine (HP.out _).mono ?_; rintro e w9 ⟨rfl, rfl⟩))
      try (go_quiet ((go_at_call 39; exact (HP.out _).mono fun _ _ hh => ⟨hh.1, _, hh.2⟩)); go_wp2_with (first | (go_at_call 40; refine (HTX.out _ (by first | exact HR1.out.counted _ HF2.out | exact HR1.out.counted 0 HF2.out | exact (HR1.out.counted _ HF2.out).keep (belowN _ _ _))).mono ?_; rintro e w3 ⟨rfl, hb3⟩; have HB4 := Lib.hid (HB1.out.trans (((show But (· = rb) w1 _ by first | exact but_counted _ _ _ _ | exact but_counted _ _ 0 _ | exact (but_counted _ _ _ _).drewN _)).trans hb3))) | (go_at_call 39; refine (HP.out _).mono ?_; rintro e w9 ⟨rfl, rfl⟩)))
      try (go_quiet ((go_at_call 39; exact (HP.out _).mono fun _ _ hh => ⟨hh.1, _, hh.2⟩)); go_wp2_with (first | (go_at_call 40; refine (HTX.out _ (by first | exact HR1.out.counted _ HF2.out | exact HR1.out.counted 0 HF2.out | exact (HR1.out.counted _ HF2.out).keep (belowN _ _ _))).mono ?_; rintro e w3 ⟨rfl, hb3⟩; have HB4 := Lib.hid (HB1.out.trans (((show But (· = rb) w1 _ by first | exact but_counted _ _ _ _ | exact but_counted _ _ 0 _ | exact (but_counted _ _ _ _).drewN _)).trans hb3))) | (go_at_call 39; refine (HP.out _).mono ?_; rintro e w9 ⟨rfl, rfl⟩)))
      try (go_quiet ((go_at_call 39; exact (HP.out _).mono fun _ _ hh => ⟨hh.1, _, hh.2⟩)); go_wp2_with (first | (go_at_call 40; refine (HTX.out _ (by first | exact HR1.out.counted _ HF2.out | exact HR1.out.counted 0 HF2.out | exact (HR1.out.counted _ HF2.out).keep (belowN _ _ _))).mono ?_; rintro e w3 ⟨rfl, hb3⟩; have HB4 := Lib.hid (HB1.out.trans (((show But (· = rb) w1 _ by first | exact but_counted _ _ _ _ | exact but_counted _ _ 0 _ | exact (but_counted _ _ _ _).drewN _)).trans hb3))) | (go_at_call 39; refine (HP.out _).mono ?_; rintro e w9 ⟨rfl, rfl⟩)))
      try (go_quiet ((go_at_call 39; exact (HP.out _).mono fun _ _ hh => ⟨hh.1, _, hh.2⟩)); go_wp2_with (first | (go_at_call 40; refine (HTX.out _ (by first | exact HR1.out.counted _ HF2.out | exact HR1.out.counted 0 HF2.out | exact (HR1.out.counted _ HF2.out).keep (belowN _ _ _))).mono ?_; rintro e w3 ⟨rfl, hb3⟩; have HB4 := Lib.hid (HB1.out.trans (((show But (· = rb) w1 _ by first | exact but_counted _ _ _ _ | exact but_counted _ _ 0 _ | exact (but_counted _ _ _ _).drewN _)).trans hb3))) | (go_at_call 39; refine (HP.out _).mono ?_; rintro e w9 ⟨rfl, rfl⟩)))
      exact ⟨rfl, rfl, HB4.out⟩
    | ok a =>
      rw [hA] at HTX
      rw [R.next_ok]
      clear hout hA
      by_cases k256 : 256 < a.1.length
      · rw [if_pos k256]
        unfold PostM
        dsimp only
        rw [hpp]
        have d256 : decide ((256 : Int) < (a.1.length : Int)) = true := decide_eq_true (by omega)
        have d257 : (256 : Int) < (a.1.length : Int) := by omega
        have HK256 := Lib.hid k256
        clear k256
        go_enter Tryz.func24, Tryz.ntmps24
        go_wp2_with (first | (go_at_call 40; refine (HTX.out _ (by first | exact HR1.out.counted _ HF2.out | exact HR1.out.counted 0 HF2.out | exact (HR1.out.counted _ HF2.out).keep (belowN _ _ _))).mono ?_; rintro e w3 ⟨⟨v3, rfl, hv3, q3, hq3, hR3, hs3⟩, hb3⟩; have hb5 := ((show But (· = rb) w1 _ by first | exact but_counted _ _ _ _ | exact but_counted _ _ 0 _ | exact (but_counted _ _ _ _).drewN _)).trans hb3; have HK3 := Lib.hid ((hb5.block w.heap.size hsz1 hne1).trans hb1); obtain ⟨k0, k1, k2, k3⟩ := block4 HK3.out; have z0 := free4 HK3.out 0; have z1 := free4 HK3.out 1; have z2 := free4 HK3.out 2; have z3 := free4 HK3.out 3; have HB4 := Lib.hid (HB1.out.trans hb5); have HR3 := Lib.hid hR3; have HS3 := Lib.hid hs3; subst hv3; clear hb5 hb3 hR3 hs3) | (go_at_call 25; refine (fail_calls _ _ _ _).mono ?_; rintro e w8 ⟨rfl, rfl⟩) | (go_at_call 39; refine (HP.out _).mono ?_; rintro e w9 ⟨rfl, rfl⟩))
        try (go_quiet ((go_at_call 39; exact (HP.out _).mono fun _ _ hh => ⟨hh.1, _, hh.2⟩)); go_wp2_with (first | (go_at_call 40; refine (HTX.out _ (by first | exact HR1.out.counted _ HF2.out | exact HR1.out.counted 0 HF2.out | exact (HR1.out.counted _ HF2.out).keep (belowN _ _ _))).mono ?_; rintro e w3 ⟨⟨v3, rfl, hv3, q3, hq3, hR3, hs3⟩, hb3⟩; have hb5 := ((show But (· = rb) w1 _ by first | exact but_counted _ _ _ _ | exact but_counted _ _ 0 _ | exact (but_counted _ _ _ _).drewN _)).trans hb3; have HK3 := Lib.hid ((hb5.block w.heap.size hsz1 hne1).trans hb1); obtain ⟨k0, k1, k2, k3⟩ := block4 HK3.out; have z0 := free4 HK3.out 0; have z1 := free4 HK3.out 1; have z2 := free4 HK3.out 2; have z3 := free4 HK3.out 3; have HB4 := Lib.hid (HB1.out.trans hb5); have HR3 := Lib.hid hR3; have HS3 := Lib.hid hs3; subst hv3; clear hb5 hb3 hR3 hs3) | (go_at_call 25; refine (fail_calls _ _ _ _).mono ?_; rintro e w8 ⟨rfl, rfl⟩) | (go_at_call 39; refine (HP.out _).mono ?_; rintro e w9 ⟨rfl, rfl⟩)))
        try (go_quiet ((go_at_call 39; exact (HP.out _).mono fun _ _ hh => ⟨hh.1, _, hh.2⟩)); go_wp2_with (first | (go_at_call 40; refine (HTX.out _ (by first | exact HR1.out.counted _ HF2.out | exact HR1.out.counted 0 HF2.out | exact (HR1.out.counted _ HF2.out).keep (belowN _ _ _))).mono ?_; rintro e w3 ⟨⟨v3, rfl, hv3, q3, hq3, hR3, hs3⟩, hb3⟩; have hb5 := ((show But (· = rb) w1 _ by first | exact but_counted _ _ _ _ | exact but_counted _ _ 0 _ | exact (but_counted _ _ _ _).drewN _)).trans hb3; have HK3 := Lib.hid ((hb5.block w.heap.size hsz1 hne1).trans hb1); obtain ⟨k0, k1, k2, k3⟩ := block4 HK3.out; have z0 := free4 HK3.out 0; have z1 := free4 HK3.out 1; have z2 := free4 HK3.out 2; have z3 := free4 HK3.out 3; have HB4 := Lib.hid (HB1.out.trans hb5); have HR3 := Lib.hid hR3; have HS3 := Lib.hid hs3; subst hv3; clear hb5 hb3 hR3 hs3) | (go_at_call 25; refine (fail_calls _ _ _ _).mono ?_; rintro e w8 ⟨rfl, rfl⟩) | (go_at_call 39; refine (HP.out _).mono ?_; rintro e w9 ⟨rfl, rfl⟩)))
        try (go_quiet ((go_at_call 39; exact (HP.out _).mono fun _ _ hh => ⟨hh.1, _, hh.2⟩)); go_wp2_with (first | (go_at_call 40; refine (HTX.out _ (by first | exact HR1.out.counted _ HF2.out | exact HR1.out.counted 0 HF2.out | exact (HR1.out.counted _ HF2.out).keep (belowN _ _ _))).mono ?_; rintro e w3 ⟨⟨v3, rfl, hv3, q3, hq3, hR3, hs3⟩, hb3⟩; have hb5 := ((show But (· = rb) w1 _ by first | exact but_counted _ _ _ _ | exact but_counted _ _ 0 _ | exact (but_counted _ _ _ _).drewN _)).trans hb3; have HK3 := Lib.hid ((hb5.block w.heap.size hsz1 hne1).trans hb1); obtain ⟨k0, k1, k2, k3⟩ := block4 HK3.out; have z0 := free4 HK3.out 0; have z1 := free4 HK3.out 1; have z2 := free4 HK3.out 2; have z3 := free4 HK3.out 3; have HB4 := Lib.hid (HB1.out.trans hb5); have HR3 := Lib.hid hR3; have HS3 := Lib.hid hs3; subst hv3; clear hb5 hb3 hR3 hs3) | (go_at_call 25; refine (fail_calls _ _ _ _).mono ?_; rintro e w8 ⟨rfl, rfl⟩) | (go_at_call 39; refine (HP.out _).mono ?_; rintro e w9 ⟨rfl, rfl⟩)))
        try (go_quiet ((go_at_call 39; exact (HP.out _).mono fun _ _ hh => ⟨hh.1, _, hh.2⟩)); go_wp2_with (first | (go_at_call 40; refine (HTX.out _ (by first | exact HR1.out.counted _ HF2.out | exact HR1.out.counted 0 HF2.out | exact (HR1.out.counted _ HF2.out).keep (belowN _ _ _))).mono ?_; rintro e w3 ⟨⟨v3, rfl, hv3, q3, hq3, hR3, hs3⟩, hb3⟩; have hb5 := ((show But (· = rb) w1 _ by first | exact but_counted _ _ _ _ | exact but_counted _ _ 0 _ | exact (but_counted _ _ _ _).drewN _)).trans hb3; have HK3 := Lib.hid ((hb5.block w.heap.size hsz1 hne1).trans hb1); obtain ⟨k0, k1, k2, k3⟩ := block4 HK3.out; have z0 := free4 HK3.out 0; have z1 := free4 HK3.out 1; have z2 := free4 HK3.out 2; have z3 := free4 HK3.out 3; have HB4 := Lib.hid (HB1.out.trans hb5); have HR3 := Lib.hid hR3; have HS3 := Lib.hid hs3; subst hv3; clear hb5 hb3 hR3 hs3) | (go_at_call 25; refine (fail_calls _ _ _ _).mono ?_; rintro e w8 ⟨rfl, rfl⟩) | (go_at_call 39; refine (HP.out _).mono ?_; rintro e w9 ⟨rfl, rfl⟩)))
        exact ⟨rfl, rfl, HB4.out⟩
      · rw [if_neg k256]
        have d256 : decide ((256 : Int) < (a.1.length : Int)) = false := decide_eq_false (by omega)
        have d257 : ¬ (256 : Int) < (a.1.length : Int) := by omega
        have HST := Lib.hid (show (⟨a.1.toArray⟩ : ByteArray).size ≤ 140737488355328 from (show a.1.toArray.size ≤ _ by simp; omega))
        have HK256 := Lib.hid k256
        clear k256
        go_enter Tryz.func24, Tryz.ntmps24
        go_wp2_with (first | (go_at_call 40; refine (HTX.out _ (by first | exact HR1.out.counted _ HF2.out | exact HR1.out.counted 0 HF2.out | exact (HR1.out.counted _ HF2.out).keep (belowN _ _ _))).mono ?_; rintro e w3 ⟨⟨v3, rfl, hv3, q3, hq3, hR3, hs3⟩, hb3⟩; have hb5 := ((show But (· = rb) w1 _ by first | exact but_counted _ _ _ _ | exact but_counted _ _ 0 _ | exact (but_counted _ _ _ _).drewN _)).trans hb3; have HK3 := Lib.hid ((hb5.block w.heap.size hsz1 hne1).trans hb1); obtain ⟨k0, k1, k2, k3⟩ := block4 HK3.out; have z0 := free4 HK3.out 0; have z1 := free4 HK3.out 1; have z2 := free4 HK3.out 2; have z3 := free4 HK3.out 3; have HB4 := Lib.hid (HB1.out.trans hb5); have HR3 := Lib.hid hR3; have HS3 := Lib.hid hs3; subst hv3; clear hb5 hb3 hR3 hs3) | (go_at_call 25; refine (fail_calls _ _ _ _).mono ?_; rintro e w8 ⟨rfl, rfl⟩) | (go_at_call 39; refine (HP.out _).mono ?_; rintro e w9 ⟨rfl, rfl⟩))
        try (go_quiet ((go_at_call 39; exact (HP.out _).mono fun _ _ hh => ⟨hh.1, _, hh.2⟩)); go_wp2_with (first | (go_at_call 40; refine (HTX.out _ (by first | exact HR1.out.counted _ HF2.out | exact HR1.out.counted 0 HF2.out | exact (HR1.out.counted _ HF2.out).keep (belowN _ _ _))).mono ?_; rintro e w3 ⟨⟨v3, rfl, hv3, q3, hq3, hR3, hs3⟩, hb3⟩; have hb5 := ((show But (· = rb) w1 _ by first | exact but_counted _ _ _ _ | exact but_counted _ _ 0 _ | exact (but_counted _ _ _ _).drewN _)).trans hb3; have HK3 := Lib.hid ((hb5.block w.heap.size hsz1 hne1).trans hb1); obtain ⟨k0, k1, k2, k3⟩ := block4 HK3.out; have z0 := free4 HK3.out 0; have z1 := free4 HK3.out 1; have z2 := free4 HK3.out 2; have z3 := free4 HK3.out 3; have HB4 := Lib.hid (HB1.out.trans hb5); have HR3 := Lib.hid hR3; have HS3 := Lib.hid hs3; subst hv3; clear hb5 hb3 hR3 hs3) | (go_at_call 25; refine (fail_calls _ _ _ _).mono ?_; rintro e w8 ⟨rfl, rfl⟩) | (go_at_call 39; refine (HP.out _).mono ?_; rintro e w9 ⟨rfl, rfl⟩)))
        try (go_quiet ((go_at_call 39; exact (HP.out _).mono fun _ _ hh => ⟨hh.1, _, hh.2⟩)); go_wp2_with (first | (go_at_call 40; refine (HTX.out _ (by first | exact HR1.out.counted _ HF2.out | exact HR1.out.counted 0 HF2.out | exact (HR1.out.counted _ HF2.out).keep (belowN _ _ _))).mono ?_; rintro e w3 ⟨⟨v3, rfl, hv3, q3, hq3, hR3, hs3⟩, hb3⟩; have hb5 := ((show But (· = rb) w1 _ by first | exact but_counted _ _ _ _ | exact but_counted _ _ 0 _ | exact (but_counted _ _ _ _).drewN _)).trans hb3; have HK3 := Lib.hid ((hb5.block w.heap.size hsz1 hne1).trans hb1); obtain ⟨k0, k1, k2, k3⟩ := block4 HK3.out; have z0 := free4 HK3.out 0; have z1 := free4 HK3.out 1; have z2 := free4 HK3.out 2; have z3 := free4 HK3.out 3; have HB4 := Lib.hid (HB1.out.trans hb5); have HR3 := Lib.hid hR3; have HS3 := Lib.hid hs3; subst hv3; clear hb5 hb3 hR3 hs3) | (go_at_call 25; refine (fail_calls _ _ _ _).mono ?_; rintro e w8 ⟨rfl, rfl⟩) | (go_at_call 39; refine (HP.out _).mono ?_; rintro e w9 ⟨rfl, rfl⟩)))
        try (go_quiet ((go_at_call 39; exact (HP.out _).mono fun _ _ hh => ⟨hh.1, _, hh.2⟩)); go_wp2_with (first | (go_at_call 40; refine (HTX.out _ (by first | exact HR1.out.counted _ HF2.out | exact HR1.out.counted 0 HF2.out | exact (HR1.out.counted _ HF2.out).keep (belowN _ _ _))).mono ?_; rintro e w3 ⟨⟨v3, rfl, hv3, q3, hq3, hR3, hs3⟩, hb3⟩; have hb5 := ((show But (· = rb) w1 _ by first | exact but_counted _ _ _ _ | exact but_counted _ _ 0 _ | exact (but_counted _ _ _ _).drewN _)).trans hb3; have HK3 := Lib.hid ((hb5.block w.heap.size hsz1 hne1).trans hb1); obtain ⟨k0, k1, k2, k3⟩ := block4 HK3.out; have z0 := free4 HK3.out 0; have z1 := free4 HK3.out 1; have z2 := free4 HK3.out 2; have z3 := free4 HK3.out 3; have HB4 := Lib.hid (HB1.out.trans hb5); have HR3 := Lib.hid hR3; have HS3 := Lib.hid hs3; subst hv3; clear hb5 hb3 hR3 hs3) | (go_at_call 25; refine (fail_calls _ _ _ _).mono ?_; rintro e w8 ⟨rfl, rfl⟩) | (go_at_call 39; refine (HP.out _).mono ?_; rintro e w9 ⟨rfl, rfl⟩)))
        try (go_quiet ((go_at_call 39; exact (HP.out _).mono fun _ _ hh => ⟨hh.1, _, hh.2⟩)); go_wp2_with (first | (go_at_call 40; refine (HTX.out _ (by first | exact HR1.out.counted _ HF2.out | exact HR1.out.counted 0 HF2.out | exact (HR1.out.counted _ HF2.out).keep (belowN _ _ _))).mono ?_; rintro e w3 ⟨⟨v3, rfl, hv3, q3, hq3, hR3, hs3⟩, hb3⟩; have hb5 := ((show But (· = rb) w1 _ by first | exact but_counted _ _ _ _ | exact but_counted _ _ 0 _ | exact (but_counted _ _ _ _).drewN _)).trans hb3; have HK3 := Lib.hid ((hb5.block w.heap.size hsz1 hne1).trans hb1); obtain ⟨k0, k1, k2, k3⟩ := block4 HK3.out; have z0 := free4 HK3.out 0; have z1 := free4 HK3.out 1; have z2 := free4 HK3.out 2; have z3 := free4 HK3.out 3; have HB4 := Lib.hid (HB1.out.trans hb5); have HR3 := Lib.hid hR3; have HS3 := Lib.hid hs3; subst hv3; clear hb5 hb3 hR3 hs3) | (go_at_call 25; refine (fail_calls _ _ _ _).mono ?_; rintro e w8 ⟨rfl, rfl⟩) | (go_at_call 39; refine (HP.out _).mono ?_; rintro e w9 ⟨rfl, rfl⟩)))
        refine bodyPost_ret (v := .agg #[.int .i64 3, .int .i64 0, .string ⟨a.1.toArray⟩, .slice none 0 0]) (by simp [results, Tryz.results24, go_sem, k0, k1, k2, k3, hne1, hne2]) rfl (form_ret hrbw (str_is ⟨a.1.toArray⟩ HST.out _ _) hq3 HR3.out HS3.out HB4.out)
  rw [if_neg (hne 34 k34)] at hout ⊢
  have q34 : ((b : Int) == 34) = false := by rw [beq_eq_false_iff_ne]; omega
  by_cases k40 : b = 40
  · subst k40
    have h0 : s[p] = 40 := UInt8.toNat_inj.1 hbt
    rw [h0, if_pos rfl] at hout ⊢
    have HP1 := Lib.hid (show p + 1 ≤ s.size from hlt)
    have hout2 := R.next_in hout
    have HIT : Hid (∀ W, Rdr W rb s (p + 1) (f + 1) → Calls Tryz.prog 41 #[.pointer (some ⟨rb, 0, none⟩), .int .u8 41, .int .i64 ((d : Int) + 1)] W (PostM (· = rb) s W (itemsF m n 41 (d + 1) (f + 1) (sfx s (p + 1))) (ItemsG rb s W.heap.size))) := Lib.hid fun W hW => HI.out 41 (d + 1) (f + 1) (p + 1) rb s W hW (by omega) hout2
    clear HP h0 hbt hcons hne k41 k93 k125 kd kf k34
    cases hA : itemsF m n 41 (d + 1) (f + 1) (sfx s (p + 1)) with
    | out => exact absurd hA hout2
    | bad er kk =>
      rw [hA] at HIT
      rw [R.next_bad]
      clear hout hout2 hA
      go_enter Tryz.func24, Tryz.ntmps24
      go_wp2_with (first | (go_at_call 41; refine (HIT.out _ (by first | exact (HR1.out.counted _ HF2.out).moved 0 (p + 1) HP1.out | exact (HR1.out.counted _ HF2.out).moved _ (p + 1) HP1.out | exact ((HR1.out.counted _ HF2.out).keep (belowN _ _ _)).moved 0 (p + 1) HP1.out)).mono ?_; rintro e w3 ⟨rfl, hb3⟩; have HB4 := Lib.hid (HB1.out.trans (((show But (· = rb) w1 _ by first | exact (but_counted _ _ _ _).trans (but_moved _ _ 0 _) | exact (but_counted _ _ _ _).trans (but_moved _ _ _ _) | exact ((but_counted _ _ _ _).drewN _).trans (but_moved _ _ 0 _))).trans hb3))) | (go_at_call 39; refine (HP.out _).mono ?_; rintro e w9 ⟨rfl, rfl⟩))
      try (go_quiet ((go_at_call 39; exact (HP.out _).mono fun _ _ hh => ⟨hh.1, _, hh.2⟩)); go_wp2_with (first | (go_at_call 41; refine (HIT.out _ (by first | exact (HR1.out.counted _ HF2.out).moved 0 (p + 1) HP1.out | exact (HR1.out.counted _ HF2.out).moved _ (p + 1) HP1.out | exact ((HR1.out.counted _ HF2.out).keep (belowN _ _ _)).moved 0 (p + 1) HP1.out)).mono ?_; rintro e w3 ⟨rfl, hb3⟩; have HB4 := Lib.hid (HB1.out.trans (((show But (· = rb) w1 _ by first | exact (but_counted _ _ _ _).trans (but_moved _ _ 0 _) | exact (but_counted _ _ _ _).trans (but_moved _ _ _ _) | exact ((but_counted _ _ _ _).drewN _).trans (but_moved _ _ 0 _))).trans hb3))) | (go_at_call 39; refine (HP.out _).mono ?_; rintro e w9 ⟨rfl, rfl⟩)))
      try (go_quiet ((go_at_call 39; exact (HP.out _).mono fun _ _ hh => ⟨hh.1, _, hh.2⟩)); go_wp2_with (first | (go_at_call 41; refine (HIT.out _ (by first | exact (HR1.out.counted _ HF2.out).moved 0 (p + 1) HP1.out | exact (HR1.out.counted _ HF2.out).moved _ (p + 1) HP1.out | exact ((HR1.out.counted _ HF2.out).keep (belowN _ _ _)).moved 0 (p + 1) HP1.out)).mono ?_; rintro e w3 ⟨rfl, hb3⟩; have HB4 := Lib.hid (HB1.out.trans (((show But (· = rb) w1 _ by first | exact (but_counted _ _ _ _).trans (but_moved _ _ 0 _) | exact (but_counted _ _ _ _).trans (but_moved _ _ _ _) | exact ((but_counted _ _ _ _).drewN _).trans (but_moved _ _ 0 _))).trans hb3))) | (go_at_call 39; refine (HP.out _).mono ?_; rintro e w9 ⟨rfl, rfl⟩)))
      try (go_quiet ((go_at_call 39; exact (HP.out _).mono fun _ _ hh => ⟨hh.1, _, hh.2⟩)); go_wp2_with (first | (go_at_call 41; refine (HIT.out _ (by first | exact (HR1.out.counted _ HF2.out).moved 0 (p + 1) HP1.out | exact (HR1.out.counted _ HF2.out).moved _ (p + 1) HP1.out | exact ((HR1.out.counted _ HF2.out).keep (belowN _ _ _)).moved 0 (p + 1) HP1.out)).mono ?_; rintro e w3 ⟨rfl, hb3⟩; have HB4 := Lib.hid (HB1.out.trans (((show But (· = rb) w1 _ by first | exact (but_counted _ _ _ _).trans (but_moved _ _ 0 _) | exact (but_counted _ _ _ _).trans (but_moved _ _ _ _) | exact ((but_counted _ _ _ _).drewN _).trans (but_moved _ _ 0 _))).trans hb3))) | (go_at_call 39; refine (HP.out _).mono ?_; rintro e w9 ⟨rfl, rfl⟩)))
      try (go_quiet ((go_at_call 39; exact (HP.out _).mono fun _ _ hh => ⟨hh.1, _, hh.2⟩)); go_wp2_with (first | (go_at_call 41; refine (HIT.out _ (by first | exact (HR1.out.counted _ HF2.out).moved 0 (p + 1) HP1.out | exact (HR1.out.counted _ HF2.out).moved _ (p + 1) HP1.out | exact ((HR1.out.counted _ HF2.out).keep (belowN _ _ _)).moved 0 (p + 1) HP1.out)).mono ?_; rintro e w3 ⟨rfl, hb3⟩; have HB4 := Lib.hid (HB1.out.trans (((show But (· = rb) w1 _ by first | exact (but_counted _ _ _ _).trans (but_moved _ _ 0 _) | exact (but_counted _ _ _ _).trans (but_moved _ _ _ _) | exact ((but_counted _ _ _ _).drewN _).trans (but_moved _ _ 0 _))).trans hb3))) | (go_at_call 39; refine (HP.out _).mono ?_; rintro e w9 ⟨rfl, rfl⟩)))
      exact ⟨rfl, rfl, HB4.out⟩
    | ok a =>
      have hhd := itemsF_head m n 41 (d + 1) (f + 1) _ a hA
      rw [hA] at HIT
      rw [R.next_ok]
      have hlp : 0 < a.2.2.length := by
        cases h : a.2.2 with
        | nil => rw [h] at hhd; cases hhd
        | cons c t => simp
      clear hout hout2 hA hhd
      go_enter Tryz.func24, Tryz.ntmps24
      go_wp2_with (first | (go_at_call 41; refine (HIT.out _ (by first | exact (HR1.out.counted _ HF2.out).moved 0 (p + 1) HP1.out | exact (HR1.out.counted _ HF2.out).moved _ (p + 1) HP1.out | exact ((HR1.out.counted _ HF2.out).keep (belowN _ _ _)).moved 0 (p + 1) HP1.out)).mono ?_; rintro e w3 ⟨⟨v3, rfl, hv3, q3, hq3, hR3, hs3⟩, hb3⟩; have hb5 := ((show But (· = rb) w1 _ by first | exact (but_counted _ _ _ _).trans (but_moved _ _ 0 _) | exact (but_counted _ _ _ _).trans (but_moved _ _ _ _) | exact ((but_counted _ _ _ _).drewN _).trans (but_moved _ _ 0 _))).trans hb3; have HK3 := Lib.hid ((hb5.block w.heap.size hsz1 hne1).trans hb1); obtain ⟨k0, k1, k2, k3⟩ := block4 HK3.out; have z0 := free4 HK3.out 0; have z1 := free4 HK3.out 1; have z2 := free4 HK3.out 2; have z3 := free4 HK3.out 3; have HB4 := Lib.hid (HB1.out.trans hb5); have HR3 := Lib.hid hR3; have HS3 := Lib.hid hs3; have hl3 := congrArg List.length hs3; rw [sfx_length] at hl3; have HQ3 := Lib.hid (show q3 + 1 ≤ s.size by omega); obtain ⟨c0, c1, c2, f1, f2⟩ := hR3.cells; have HWS := Lib.hid (ws_of hb3 (by first | exact (but_counted _ _ _ _).trans (but_moved _ _ 0 _) | exact (but_counted _ _ _ _).trans (but_moved _ _ _ _) | exact ((but_counted _ _ _ _).drewN _).trans (but_moved _ _ 0 _))); have HV3 := Lib.hid hv3; obtain ⟨A3, ca3, rfl, hca3, hl32, hA3⟩ := hv3; clear hA3 hl3; clear hb5 hb3 hR3 hs3) | (go_at_call 39; refine (HP.out _).mono ?_; rintro e w9 ⟨rfl, rfl⟩))
      try (go_quiet ((go_at_call 39; exact (HP.out _).mono fun _ _ hh => ⟨hh.1, _, hh.2⟩)); go_wp2_with (first | (go_at_call 41; refine (HIT.out _ (by first | exact (HR1.out.counted _ HF2.out).moved 0 (p + 1) HP1.out | exact (HR1.out.counted _ HF2.out).moved _ (p + 1) HP1.out | exact ((HR1.out.counted _ HF2.out).keep (belowN _ _ _)).moved 0 (p + 1) HP1.out)).mono ?_; rintro e w3 ⟨⟨v3, rfl, hv3, q3, hq3, hR3, hs3⟩, hb3⟩; have hb5 := ((show But (· = rb) w1 _ by first | exact (but_counted _ _ _ _).trans (but_moved _ _ 0 _) | exact (but_counted _ _ _ _).trans (but_moved _ _ _ _) | exact ((but_counted _ _ _ _).drewN _).trans (but_moved _ _ 0 _))).trans hb3; have HK3 := Lib.hid ((hb5.block w.heap.size hsz1 hne1).trans hb1); obtain ⟨k0, k1, k2, k3⟩ := block4 HK3.out; have z0 := free4 HK3.out 0; have z1 := free4 HK3.out 1; have z2 := free4 HK3.out 2; have z3 := free4 HK3.out 3; have HB4 := Lib.hid (HB1.out.trans hb5); have HR3 := Lib.hid hR3; have HS3 := Lib.hid hs3; have hl3 := congrArg List.length hs3; rw [sfx_length] at hl3; have HQ3 := Lib.hid (show q3 + 1 ≤ s.size by omega); obtain ⟨c0, c1, c2, f1, f2⟩ := hR3.cells; have HWS := Lib.hid (ws_of hb3 (by first | exact (but_counted _ _ _ _).trans (but_moved _ _ 0 _) | exact (but_counted _ _ _ _).trans (but_moved _ _ _ _) | exact ((but_counted _ _ _ _).drewN _).trans (but_moved _ _ 0 _))); have HV3 := Lib.hid hv3; obtain ⟨A3, ca3, rfl, hca3, hl32, hA3⟩ := hv3; clear hA3 hl3; clear hb5 hb3 hR3 hs3) | (go_at_call 39; refine (HP.out _).mono ?_; rintro e w9 ⟨rfl, rfl⟩)))
      try (go_quiet ((go_at_call 39; exact (HP.out _).mono fun _ _ hh => ⟨hh.1, _, hh.2⟩)); go_wp2_with (first | (go_at_call 41; refine (HIT.out _ (by first | exact (HR1.out.counted _ HF2.out).moved 0 (p + 1) HP1.out | exact (HR1.out.counted _ HF2.out).moved _ (p + 1) HP1.out | exact ((HR1.out.counted _ HF2.out).keep (belowN _ _ _)).moved 0 (p + 1) HP1.out)).mono ?_; rintro e w3 ⟨⟨v3, rfl, hv3, q3, hq3, hR3, hs3⟩, hb3⟩; have hb5 := ((show But (· = rb) w1 _ by first | exact (but_counted _ _ _ _).trans (but_moved _ _ 0 _) | exact (but_counted _ _ _ _).trans (but_moved _ _ _ _) | exact ((but_counted _ _ _ _).drewN _).trans (but_moved _ _ 0 _))).trans hb3; have HK3 := Lib.hid ((hb5.block w.heap.size hsz1 hne1).trans hb1); obtain ⟨k0, k1, k2, k3⟩ := block4 HK3.out; have z0 := free4 HK3.out 0; have z1 := free4 HK3.out 1; have z2 := free4 HK3.out 2; have z3 := free4 HK3.out 3; have HB4 := Lib.hid (HB1.out.trans hb5); have HR3 := Lib.hid hR3; have HS3 := Lib.hid hs3; have hl3 := congrArg List.length hs3; rw [sfx_length] at hl3; have HQ3 := Lib.hid (show q3 + 1 ≤ s.size by omega); obtain ⟨c0, c1, c2, f1, f2⟩ := hR3.cells; have HWS := Lib.hid (ws_of hb3 (by first | exact (but_counted _ _ _ _).trans (but_moved _ _ 0 _) | exact (but_counted _ _ _ _).trans (but_moved _ _ _ _) | exact ((but_counted _ _ _ _).drewN _).trans (but_moved _ _ 0 _))); have HV3 := Lib.hid hv3; obtain ⟨A3, ca3, rfl, hca3, hl32, hA3⟩ := hv3; clear hA3 hl3; clear hb5 hb3 hR3 hs3) | (go_at_call 39; refine (HP.out _).mono ?_; rintro e w9 ⟨rfl, rfl⟩)))
      try (go_quiet ((go_at_call 39; exact (HP.out _).mono fun _ _ hh => ⟨hh.1, _, hh.2⟩)); go_wp2_with (first | (go_at_call 41; refine (HIT.out _ (by first | exact (HR1.out.counted _ HF2.out).moved 0 (p + 1) HP1.out | exact (HR1.out.counted _ HF2.out).moved _ (p + 1) HP1.out | exact ((HR1.out.counted _ HF2.out).keep (belowN _ _ _)).moved 0 (p + 1) HP1.out)).mono ?_; rintro e w3 ⟨⟨v3, rfl, hv3, q3, hq3, hR3, hs3⟩, hb3⟩; have hb5 := ((show But (· = rb) w1 _ by first | exact (but_counted _ _ _ _).trans (but_moved _ _ 0 _) | exact (but_counted _ _ _ _).trans (but_moved _ _ _ _) | exact ((but_counted _ _ _ _).drewN _).trans (but_moved _ _ 0 _))).trans hb3; have HK3 := Lib.hid ((hb5.block w.heap.size hsz1 hne1).trans hb1); obtain ⟨k0, k1, k2, k3⟩ := block4 HK3.out; have z0 := free4 HK3.out 0; have z1 := free4 HK3.out 1; have z2 := free4 HK3.out 2; have z3 := free4 HK3.out 3; have HB4 := Lib.hid (HB1.out.trans hb5); have HR3 := Lib.hid hR3; have HS3 := Lib.hid hs3; have hl3 := congrArg List.length hs3; rw [sfx_length] at hl3; have HQ3 := Lib.hid (show q3 + 1 ≤ s.size by omega); obtain ⟨c0, c1, c2, f1, f2⟩ := hR3.cells; have HWS := Lib.hid (ws_of hb3 (by first | exact (but_counted _ _ _ _).trans (but_moved _ _ 0 _) | exact (but_counted _ _ _ _).trans (but_moved _ _ _ _) | exact ((but_counted _ _ _ _).drewN _).trans (but_moved _ _ 0 _))); have HV3 := Lib.hid hv3; obtain ⟨A3, ca3, rfl, hca3, hl32, hA3⟩ := hv3; clear hA3 hl3; clear hb5 hb3 hR3 hs3) | (go_at_call 39; refine (HP.out _).mono ?_; rintro e w9 ⟨rfl, rfl⟩)))
      try (go_quiet ((go_at_call 39; exact (HP.out _).mono fun _ _ hh => ⟨hh.1, _, hh.2⟩)); go_wp2_with (first | (go_at_call 41; refine (HIT.out _ (by first | exact (HR1.out.counted _ HF2.out).moved 0 (p + 1) HP1.out | exact (HR1.out.counted _ HF2.out).moved _ (p + 1) HP1.out | exact ((HR1.out.counted _ HF2.out).keep (belowN _ _ _)).moved 0 (p + 1) HP1.out)).mono ?_; rintro e w3 ⟨⟨v3, rfl, hv3, q3, hq3, hR3, hs3⟩, hb3⟩; have hb5 := ((show But (· = rb) w1 _ by first | exact (but_counted _ _ _ _).trans (but_moved _ _ 0 _) | exact (but_counted _ _ _ _).trans (but_moved _ _ _ _) | exact ((but_counted _ _ _ _).drewN _).trans (but_moved _ _ 0 _))).trans hb3; have HK3 := Lib.hid ((hb5.block w.heap.size hsz1 hne1).trans hb1); obtain ⟨k0, k1, k2, k3⟩ := block4 HK3.out; have z0 := free4 HK3.out 0; have z1 := free4 HK3.out 1; have z2 := free4 HK3.out 2; have z3 := free4 HK3.out 3; have HB4 := Lib.hid (HB1.out.trans hb5); have HR3 := Lib.hid hR3; have HS3 := Lib.hid hs3; have hl3 := congrArg List.length hs3; rw [sfx_length] at hl3; have HQ3 := Lib.hid (show q3 + 1 ≤ s.size by omega); obtain ⟨c0, c1, c2, f1, f2⟩ := hR3.cells; have HWS := Lib.hid (ws_of hb3 (by first | exact (but_counted _ _ _ _).trans (but_moved _ _ 0 _) | exact (but_counted _ _ _ _).trans (but_moved _ _ _ _) | exact ((but_counted _ _ _ _).drewN _).trans (but_moved _ _ 0 _))); have HV3 := Lib.hid hv3; obtain ⟨A3, ca3, rfl, hca3, hl32, hA3⟩ := hv3; clear hA3 hl3; clear hb5 hb3 hR3 hs3) | (go_at_call 39; refine (HP.out _).mono ?_; rintro e w9 ⟨rfl, rfl⟩)))
      refine bodyPost_ret (v := .agg #[.int .i64 4, .int .i64 0, .string ⟨#[]⟩, .slice A3 a.1.length ca3]) (by simp [results, Tryz.results24, go_sem, k0, k1, k2, k3, hne1, hne2]) rfl (form_ret hrbw (lst_is (HV3.out.keep (keep_rb hrbw hsz1 HWS.out 1 _))) HQ3.out (HR3.out.move (q3 + 1)) (by rw [sfx_tail, HS3.out]) (HB4.out.set (.inr rfl) _))
  rw [if_neg (hne 40 k40)] at hout ⊢
  have q40 : ((b : Int) == 40) = false := by rw [beq_eq_false_iff_ne]; omega
  by_cases k91 : b = 91
  · subst k91
    have h0 : s[p] = 91 := UInt8.toNat_inj.1 hbt
    rw [h0, if_pos rfl] at hout ⊢
    have HP1 := Lib.hid (show p + 1 ≤ s.size from hlt)
    have hout2 := R.next_in hout
    have HIT : Hid (∀ W, Rdr W rb s (p + 1) (f + 1) → Calls Tryz.prog 41 #[.pointer (some ⟨rb, 0, none⟩), .int .u8 93, .int .i64 ((d : Int) + 1)] W (PostM (· = rb) s W (itemsF m n 93 (d + 1) (f + 1) (sfx s (p + 1))) (ItemsG rb s W.heap.size))) := Lib.hid fun W hW => HI.out 93 (d + 1) (f + 1) (p + 1) rb s W hW (by omega) hout2
    clear HP h0 hbt hcons hne k41 k93 k125 kd kf k34
    cases hA : itemsF m n 93 (d + 1) (f + 1) (sfx s (p + 1)) with
    | out => exact absurd hA hout2
    | bad er kk =>
      rw [hA] at HIT
      rw [R.next_bad]
      clear hout hout2 hA
      go_enter Tryz.func24, Tryz.ntmps24
      go_wp2_with (first | (go_at_call 41; refine (HIT.out _ (by first | exact (HR1.out.counted _ HF2.out).moved 0 (p + 1) HP1.out | exact (HR1.out.counted _ HF2.out).moved _ (p + 1) HP1.out | exact ((HR1.out.counted _ HF2.out).keep (belowN _ _ _)).moved 0 (p + 1) HP1.out)).mono ?_; rintro e w3 ⟨rfl, hb3⟩; have HB4 := Lib.hid (HB1.out.trans (((show But (· = rb) w1 _ by first | exact (but_counted _ _ _ _).trans (but_moved _ _ 0 _) | exact (but_counted _ _ _ _).trans (but_moved _ _ _ _) | exact ((but_counted _ _ _ _).drewN _).trans (but_moved _ _ 0 _))).trans hb3))) | (go_at_call 39; refine (HP.out _).mono ?_; rintro e w9 ⟨rfl, rfl⟩))
      try (go_quiet ((go_at_call 39; exact (HP.out _).mono fun _ _ hh => ⟨hh.1, _, hh.2⟩)); go_wp2_with (first | (go_at_call 41; refine (HIT.out _ (by first | exact (HR1.out.counted _ HF2.out).moved 0 (p + 1) HP1.out | exact (HR1.out.counted _ HF2.out).moved _ (p + 1) HP1.out | exact ((HR1.out.counted _ HF2.out).keep (belowN _ _ _)).moved 0 (p + 1) HP1.out)).mono ?_; rintro e w3 ⟨rfl, hb3⟩; have HB4 := Lib.hid (HB1.out.trans (((show But (· = rb) w1 _ by first | exact (but_counted _ _ _ _).trans (but_moved _ _ 0 _) | exact (but_counted _ _ _ _).trans (but_moved _ _ _ _) | exact ((but_counted _ _ _ _).drewN _).trans (but_moved _ _ 0 _))).trans hb3))) | (go_at_call 39; refine (HP.out _).mono ?_; rintro e w9 ⟨rfl, rfl⟩)))
      try (go_quiet ((go_at_call 39; exact (HP.out _).mono fun _ _ hh => ⟨hh.1, _, hh.2⟩)); go_wp2_with (first | (go_at_call 41; refine (HIT.out _ (by first | exact (HR1.out.counted _ HF2.out).moved 0 (p + 1) HP1.out | exact (HR1.out.counted _ HF2.out).moved _ (p + 1) HP1.out | exact ((HR1.out.counted _ HF2.out).keep (belowN _ _ _)).moved 0 (p + 1) HP1.out)).mono ?_; rintro e w3 ⟨rfl, hb3⟩; have HB4 := Lib.hid (HB1.out.trans (((show But (· = rb) w1 _ by first | exact (but_counted _ _ _ _).trans (but_moved _ _ 0 _) | exact (but_counted _ _ _ _).trans (but_moved _ _ _ _) | exact ((but_counted _ _ _ _).drewN _).trans (but_moved _ _ 0 _))).trans hb3))) | (go_at_call 39; refine (HP.out _).mono ?_; rintro e w9 ⟨rfl, rfl⟩)))
      try (go_quiet ((go_at_call 39; exact (HP.out _).mono fun _ _ hh => ⟨hh.1, _, hh.2⟩)); go_wp2_with (first | (go_at_call 41; refine (HIT.out _ (by first | exact (HR1.out.counted _ HF2.out).moved 0 (p + 1) HP1.out | exact (HR1.out.counted _ HF2.out).moved _ (p + 1) HP1.out | exact ((HR1.out.counted _ HF2.out).keep (belowN _ _ _)).moved 0 (p + 1) HP1.out)).mono ?_; rintro e w3 ⟨rfl, hb3⟩; have HB4 := Lib.hid (HB1.out.trans (((show But (· = rb) w1 _ by first | exact (but_counted _ _ _ _).trans (but_moved _ _ 0 _) | exact (but_counted _ _ _ _).trans (but_moved _ _ _ _) | exact ((but_counted _ _ _ _).drewN _).trans (but_moved _ _ 0 _))).trans hb3))) | (go_at_call 39; refine (HP.out _).mono ?_; rintro e w9 ⟨rfl, rfl⟩)))
      try (go_quiet ((go_at_call 39; exact (HP.out _).mono fun _ _ hh => ⟨hh.1, _, hh.2⟩)); go_wp2_with (first | (go_at_call 41; refine (HIT.out _ (by first | exact (HR1.out.counted _ HF2.out).moved 0 (p + 1) HP1.out | exact (HR1.out.counted _ HF2.out).moved _ (p + 1) HP1.out | exact ((HR1.out.counted _ HF2.out).keep (belowN _ _ _)).moved 0 (p + 1) HP1.out)).mono ?_; rintro e w3 ⟨rfl, hb3⟩; have HB4 := Lib.hid (HB1.out.trans (((show But (· = rb) w1 _ by first | exact (but_counted _ _ _ _).trans (but_moved _ _ 0 _) | exact (but_counted _ _ _ _).trans (but_moved _ _ _ _) | exact ((but_counted _ _ _ _).drewN _).trans (but_moved _ _ 0 _))).trans hb3))) | (go_at_call 39; refine (HP.out _).mono ?_; rintro e w9 ⟨rfl, rfl⟩)))
      exact ⟨rfl, rfl, HB4.out⟩
    | ok a =>
      have hhd := itemsF_head m n 93 (d + 1) (f + 1) _ a hA
      rw [hA] at HIT
      rw [R.next_ok]
      have hlp : 0 < a.2.2.length := by
        cases h : a.2.2 with
        | nil => rw [h] at hhd; cases hhd
        | cons c t => simp
      clear hout hout2 hA hhd
      go_enter Tryz.func24, Tryz.ntmps24
      go_wp2_with (first | (go_at_call 41; refine (HIT.out _ (by first | exact (HR1.out.counted _ HF2.out).moved 0 (p + 1) HP1.out | exact (HR1.out.counted _ HF2.out).moved _ (p + 1) HP1.out | exact ((HR1.out.counted _ HF2.out).keep (belowN _ _ _)).moved 0 (p + 1) HP1.out)).mono ?_; rintro e w3 ⟨⟨v3, rfl, hv3, q3, hq3, hR3, hs3⟩, hb3⟩; have hb5 := ((show But (· = rb) w1 _ by first | exact (but_counted _ _ _ _).trans (but_moved _ _ 0 _) | exact (but_counted _ _ _ _).trans (but_moved _ _ _ _) | exact ((but_counted _ _ _ _).drewN _).trans (but_moved _ _ 0 _))).trans hb3; have HK3 := Lib.hid ((hb5.block w.heap.size hsz1 hne1).trans hb1); obtain ⟨k0, k1, k2, k3⟩ := block4 HK3.out; have z0 := free4 HK3.out 0; have z1 := free4 HK3.out 1; have z2 := free4 HK3.out 2; have z3 := free4 HK3.out 3; have HB4 := Lib.hid (HB1.out.trans hb5); have HR3 := Lib.hid hR3; have HS3 := Lib.hid hs3; have hl3 := congrArg List.length hs3; rw [sfx_length] at hl3; have HQ3 := Lib.hid (show q3 + 1 ≤ s.size by omega); obtain ⟨c0, c1, c2, f1, f2⟩ := hR3.cells; have HWS := Lib.hid (ws_of hb3 (by first | exact (but_counted _ _ _ _).trans (but_moved _ _ 0 _) | exact (but_counted _ _ _ _).trans (but_moved _ _ _ _) | exact ((but_counted _ _ _ _).drewN _).trans (but_moved _ _ 0 _))); have HV3 := Lib.hid hv3; obtain ⟨A3, ca3, rfl, hca3, hl32, hA3⟩ := hv3; clear hA3 hl3; clear hb5 hb3 hR3 hs3) | (go_at_call 39; refine (HP.out _).mono ?_; rintro e w9 ⟨rfl, rfl⟩))
      try (go_quiet ((go_at_call 39; exact (HP.out _).mono fun _ _ hh => ⟨hh.1, _, hh.2⟩)); go_wp2_with (first | (go_at_call 41; refine (HIT.out _ (by first | exact (HR1.out.counted _ HF2.out).moved 0 (p + 1) HP1.out | exact (HR1.out.counted _ HF2.out).moved _ (p + 1) HP1.out | exact ((HR1.out.counted _ HF2.out).keep (belowN _ _ _)).moved 0 (p + 1) HP1.out)).mono ?_; rintro e w3 ⟨⟨v3, rfl, hv3, q3, hq3, hR3, hs3⟩, hb3⟩; have hb5 := ((show But (· = rb) w1 _ by first | exact (but_counted _ _ _ _).trans (but_moved _ _ 0 _) | exact (but_counted _ _ _ _).trans (but_moved _ _ _ _) | exact ((but_counted _ _ _ _).drewN _).trans (but_moved _ _ 0 _))).trans hb3; have HK3 := Lib.hid ((hb5.block w.heap.size hsz1 hne1).trans hb1); obtain ⟨k0, k1, k2, k3⟩ := block4 HK3.out; have z0 := free4 HK3.out 0; have z1 := free4 HK3.out 1; have z2 := free4 HK3.out 2; have z3 := free4 HK3.out 3; have HB4 := Lib.hid (HB1.out.trans hb5); have HR3 := Lib.hid hR3; have HS3 := Lib.hid hs3; have hl3 := congrArg List.length hs3; rw [sfx_length] at hl3; have HQ3 := Lib.hid (show q3 + 1 ≤ s.size by omega); obtain ⟨c0, c1, c2, f1, f2⟩ := hR3.cells; have HWS := Lib.hid (ws_of hb3 (by first | exact (but_counted _ _ _ _).trans (but_moved _ _ 0 _) | exact (but_counted _ _ _ _).trans (but_moved _ _ _ _) | exact ((but_counted _ _ _ _).drewN _).trans (but_moved _ _ 0 _))); have HV3 := Lib.hid hv3; obtain ⟨A3, ca3, rfl, hca3, hl32, hA3⟩ := hv3; clear hA3 hl3; clear hb5 hb3 hR3 hs3) | (go_at_call 39; refine (HP.out _).mono ?_; rintro e w9 ⟨rfl, rfl⟩)))
      try (go_quiet ((go_at_call 39; exact (HP.out _).mono fun _ _ hh => ⟨hh.1, _, hh.2⟩)); go_wp2_with (first | (go_at_call 41; refine (HIT.out _ (by first | exact (HR1.out.counted _ HF2.out).moved 0 (p + 1) HP1.out | exact (HR1.out.counted _ HF2.out).moved _ (p + 1) HP1.out | exact ((HR1.out.counted _ HF2.out).keep (belowN _ _ _)).moved 0 (p + 1) HP1.out)).mono ?_; rintro e w3 ⟨⟨v3, rfl, hv3, q3, hq3, hR3, hs3⟩, hb3⟩; have hb5 := ((show But (· = rb) w1 _ by first | exact (but_counted _ _ _ _).trans (but_moved _ _ 0 _) | exact (but_counted _ _ _ _).trans (but_moved _ _ _ _) | exact ((but_counted _ _ _ _).drewN _).trans (but_moved _ _ 0 _))).trans hb3; have HK3 := Lib.hid ((hb5.block w.heap.size hsz1 hne1).trans hb1); obtain ⟨k0, k1, k2, k3⟩ := block4 HK3.out; have z0 := free4 HK3.out 0; have z1 := free4 HK3.out 1; have z2 := free4 HK3.out 2; have z3 := free4 HK3.out 3; have HB4 := Lib.hid (HB1.out.trans hb5); have HR3 := Lib.hid hR3; have HS3 := Lib.hid hs3; have hl3 := congrArg List.length hs3; rw [sfx_length] at hl3; have HQ3 := Lib.hid (show q3 + 1 ≤ s.size by omega); obtain ⟨c0, c1, c2, f1, f2⟩ := hR3.cells; have HWS := Lib.hid (ws_of hb3 (by first | exact (but_counted _ _ _ _).trans (but_moved _ _ 0 _) | exact (but_counted _ _ _ _).trans (but_moved _ _ _ _) | exact ((but_counted _ _ _ _).drewN _).trans (but_moved _ _ 0 _))); have HV3 := Lib.hid hv3; obtain ⟨A3, ca3, rfl, hca3, hl32, hA3⟩ := hv3; clear hA3 hl3; clear hb5 hb3 hR3 hs3) | (go_at_call 39; refine (HP.out _).mono ?_; rintro e w9 ⟨rfl, rfl⟩)))
      try (go_quiet ((go_at_call 39; exact (HP.out _).mono fun _ _ hh => ⟨hh.1, _, hh.2⟩)); go_wp2_with (first | (go_at_call 41; refine (HIT.out _ (by first | exact (HR1.out.counted _ HF2.out).moved 0 (p + 1) HP1.out | exact (HR1.out.counted _ HF2.out).moved _ (p + 1) HP1.out | exact ((HR1.out.counted _ HF2.out).keep (belowN _ _ _)).moved 0 (p + 1) HP1.out)).mono ?_; rintro e w3 ⟨⟨v3, rfl, hv3, q3, hq3, hR3, hs3⟩, hb3⟩; have hb5 := ((show But (· = rb) w1 _ by first | exact (but_counted _ _ _ _).trans (but_moved _ _ 0 _) | exact (but_counted _ _ _ _).trans (but_moved _ _ _ _) | exact ((but_counted _ _ _ _).drewN _).trans (but_moved _ _ 0 _))).trans hb3; have HK3 := Lib.hid ((hb5.block w.heap.size hsz1 hne1).trans hb1); obtain ⟨k0, k1, k2, k3⟩ := block4 HK3.out; have z0 := free4 HK3.out 0; have z1 := free4 HK3.out 1; have z2 := free4 HK3.out 2; have z3 := free4 HK3.out 3; have HB4 := Lib.hid (HB1.out.trans hb5); have HR3 := Lib.hid hR3; have HS3 := Lib.hid hs3; have hl3 := congrArg List.length hs3; rw [sfx_length] at hl3; have HQ3 := Lib.hid (show q3 + 1 ≤ s.size by omega); obtain ⟨c0, c1, c2, f1, f2⟩ := hR3.cells; have HWS := Lib.hid (ws_of hb3 (by first | exact (but_counted _ _ _ _).trans (but_moved _ _ 0 _) | exact (but_counted _ _ _ _).trans (but_moved _ _ _ _) | exact ((but_counted _ _ _ _).drewN _).trans (but_moved _ _ 0 _))); have HV3 := Lib.hid hv3; obtain ⟨A3, ca3, rfl, hca3, hl32, hA3⟩ := hv3; clear hA3 hl3; clear hb5 hb3 hR3 hs3) | (go_at_call 39; refine (HP.out _).mono ?_; rintro e w9 ⟨rfl, rfl⟩)))
      try (go_quiet ((go_at_call 39; exact (HP.out _).mono fun _ _ hh => ⟨hh.1, _, hh.2⟩)); go_wp2_with (first | (go_at_call 41; refine (HIT.out _ (by first | exact (HR1.out.counted _ HF2.out).moved 0 (p + 1) HP1.out | exact (HR1.out.counted _ HF2.out).moved _ (p + 1) HP1.out | exact ((HR1.out.counted _ HF2.out).keep (belowN _ _ _)).moved 0 (p + 1) HP1.out)).mono ?_; rintro e w3 ⟨⟨v3, rfl, hv3, q3, hq3, hR3, hs3⟩, hb3⟩; have hb5 := ((show But (· = rb) w1 _ by first | exact (but_counted _ _ _ _).trans (but_moved _ _ 0 _) | exact (but_counted _ _ _ _).trans (but_moved _ _ _ _) | exact ((but_counted _ _ _ _).drewN _).trans (but_moved _ _ 0 _))).trans hb3; have HK3 := Lib.hid ((hb5.block w.heap.size hsz1 hne1).trans hb1); obtain ⟨k0, k1, k2, k3⟩ := block4 HK3.out; have z0 := free4 HK3.out 0; have z1 := free4 HK3.out 1; have z2 := free4 HK3.out 2; have z3 := free4 HK3.out 3; have HB4 := Lib.hid (HB1.out.trans hb5); have HR3 := Lib.hid hR3; have HS3 := Lib.hid hs3; have hl3 := congrArg List.length hs3; rw [sfx_length] at hl3; have HQ3 := Lib.hid (show q3 + 1 ≤ s.size by omega); obtain ⟨c0, c1, c2, f1, f2⟩ := hR3.cells; have HWS := Lib.hid (ws_of hb3 (by first | exact (but_counted _ _ _ _).trans (but_moved _ _ 0 _) | exact (but_counted _ _ _ _).trans (but_moved _ _ _ _) | exact ((but_counted _ _ _ _).drewN _).trans (but_moved _ _ 0 _))); have HV3 := Lib.hid hv3; obtain ⟨A3, ca3, rfl, hca3, hl32, hA3⟩ := hv3; clear hA3 hl3; clear hb5 hb3 hR3 hs3) | (go_at_call 39; refine (HP.out _).mono ?_; rintro e w9 ⟨rfl, rfl⟩)))
      refine bodyPost_ret (v := .agg #[.int .i64 4, .int .i64 0, .string ⟨#[]⟩, .slice A3 a.1.length ca3]) (by simp [results, Tryz.results24, go_sem, k0, k1, k2, k3, hne1, hne2]) rfl (form_ret hrbw (lst_is (HV3.out.keep (keep_rb hrbw hsz1 HWS.out 1 _))) HQ3.out (HR3.out.move (q3 + 1)) (by rw [sfx_tail, HS3.out]) (HB4.out.set (.inr rfl) _))
  rw [if_neg (hne 91 k91)] at hout ⊢
  have q91 : ((b : Int) == 91) = false := by rw [beq_eq_false_iff_ne]; omega
  by_cases k123 : b = 123
  · subst k123
    have h0 : s[p] = 123 := UInt8.toNat_inj.1 hbt
    rw [h0, if_pos rfl] at hout ⊢
    rw [h0, pre_other (by decide)] at HP
    have HPC := Lib.hid fun W (hW : Rdr W rb s p (f + 1)) => HPA.out d (f + 1) p rb s W hW hlt hd16 hout
    clear h0 hbt hcons hne k41 k93 k125 kd kf k34 k40 k91
    cases hA : pairsR m n d (f + 1) (s.size - p) (sfx s (p + 1)) with
    | out => exact absurd hA hout
    | bad er kk =>
      rw [hA] at HPC
      clear hout hA
      go_enter Tryz.func24, Tryz.ntmps24
      go_wp2_with (first | (go_at_call 42; refine (HPC.out _ (by first | exact HR1.out.counted _ HF2.out | exact HR1.out.counted 0 HF2.out | exact (HR1.out.counted _ HF2.out).keep (belowN _ _ _))).mono ?_; rintro e w3 ⟨rfl, hb3⟩; have HB4 := Lib.hid (HB1.out.trans (((show But (· = rb) w1 _ by first | exact but_counted _ _ _ _ | exact but_counted _ _ 0 _ | exact (but_counted _ _ _ _).drewN _)).trans hb3))) | (go_at_call 39; refine (HP.out _).mono ?_; rintro e w9 ⟨rfl, rfl⟩))
      try (go_quiet ((go_at_call 39; exact (HP.out _).mono fun _ _ hh => ⟨hh.1, _, hh.2⟩)); go_wp2_with (first | (go_at_call 42; refine (HPC.out _ (by first | exact HR1.out.counted _ HF2.out | exact HR1.out.counted 0 HF2.out | exact (HR1.out.counted _ HF2.out).keep (belowN _ _ _))).mono ?_; rintro e w3 ⟨rfl, hb3⟩; have HB4 := Lib.hid (HB1.out.trans (((show But (· = rb) w1 _ by first | exact but_counted _ _ _ _ | exact but_counted _ _ 0 _ | exact (but_counted _ _ _ _).drewN _)).trans hb3))) | (go_at_call 39; refine (HP.out _).mono ?_; rintro e w9 ⟨rfl, rfl⟩)))
      try (go_quiet ((go_at_call 39; exact (HP.out _).mono fun _ _ hh => ⟨hh.1, _, hh.2⟩)); go_wp2_with (first | (go_at_call 42; refine (HPC.out _ (by first | exact HR1.out.counted _ HF2.out | exact HR1.out.counted 0 HF2.out | exact (HR1.out.counted _ HF2.out).keep (belowN _ _ _))).mono ?_; rintro e w3 ⟨rfl, hb3⟩; have HB4 := Lib.hid (HB1.out.trans (((show But (· = rb) w1 _ by first | exact but_counted _ _ _ _ | exact but_counted _ _ 0 _ | exact (but_counted _ _ _ _).drewN _)).trans hb3))) | (go_at_call 39; refine (HP.out _).mono ?_; rintro e w9 ⟨rfl, rfl⟩)))
      try (go_quiet ((go_at_call 39; exact (HP.out _).mono fun _ _ hh => ⟨hh.1, _, hh.2⟩)); go_wp2_with (first | (go_at_call 42; refine (HPC.out _ (by first | exact HR1.out.counted _ HF2.out | exact HR1.out.counted 0 HF2.out | exact (HR1.out.counted _ HF2.out).keep (belowN _ _ _))).mono ?_; rintro e w3 ⟨rfl, hb3⟩; have HB4 := Lib.hid (HB1.out.trans (((show But (· = rb) w1 _ by first | exact but_counted _ _ _ _ | exact but_counted _ _ 0 _ | exact (but_counted _ _ _ _).drewN _)).trans hb3))) | (go_at_call 39; refine (HP.out _).mono ?_; rintro e w9 ⟨rfl, rfl⟩)))
      try (go_quiet ((go_at_call 39; exact (HP.out _).mono fun _ _ hh => ⟨hh.1, _, hh.2⟩)); go_wp2_with (first | (go_at_call 42; refine (HPC.out _ (by first | exact HR1.out.counted _ HF2.out | exact HR1.out.counted 0 HF2.out | exact (HR1.out.counted _ HF2.out).keep (belowN _ _ _))).mono ?_; rintro e w3 ⟨rfl, hb3⟩; have HB4 := Lib.hid (HB1.out.trans (((show But (· = rb) w1 _ by first | exact but_counted _ _ _ _ | exact but_counted _ _ 0 _ | exact (but_counted _ _ _ _).drewN _)).trans hb3))) | (go_at_call 39; refine (HP.out _).mono ?_; rintro e w9 ⟨rfl, rfl⟩)))
      exact ⟨rfl, rfl, HB4.out⟩
    | ok a =>
      rw [hA] at HPC
      clear hout hA
      go_enter Tryz.func24, Tryz.ntmps24
      go_wp2_with (first | (go_at_call 42; refine (HPC.out _ (by first | exact HR1.out.counted _ HF2.out | exact HR1.out.counted 0 HF2.out | exact (HR1.out.counted _ HF2.out).keep (belowN _ _ _))).mono ?_; rintro e w3 ⟨⟨v3, rfl, hv3, q3, hq3, hR3, hs3⟩, hb3⟩; have hb5 := ((show But (· = rb) w1 _ by first | exact but_counted _ _ _ _ | exact but_counted _ _ 0 _ | exact (but_counted _ _ _ _).drewN _)).trans hb3; have HK3 := Lib.hid ((hb5.block w.heap.size hsz1 hne1).trans hb1); obtain ⟨k0, k1, k2, k3⟩ := block4 HK3.out; have z0 := free4 HK3.out 0; have z1 := free4 HK3.out 1; have z2 := free4 HK3.out 2; have z3 := free4 HK3.out 3; have HB4 := Lib.hid (HB1.out.trans hb5); have HR3 := Lib.hid hR3; have HS3 := Lib.hid hs3; have HWS := Lib.hid (ws_of hb3 (by first | exact but_counted _ _ _ _ | exact but_counted _ _ 0 _ | exact (but_counted _ _ _ _).drewN _)); have HV3 := Lib.hid hv3; obtain ⟨hbd3, A3, ca3, rfl, hca3, hA3⟩ := hv3.eq; clear hA3; clear hb5 hb3 hR3 hs3) | (go_at_call 39; refine (HP.out _).mono ?_; rintro e w9 ⟨rfl, rfl⟩))
      try (go_quiet ((go_at_call 39; exact (HP.out _).mono fun _ _ hh => ⟨hh.1, _, hh.2⟩)); go_wp2_with (first | (go_at_call 42; refine (HPC.out _ (by first | exact HR1.out.counted _ HF2.out | exact HR1.out.counted 0 HF2.out | exact (HR1.out.counted _ HF2.out).keep (belowN _ _ _))).mono ?_; rintro e w3 ⟨⟨v3, rfl, hv3, q3, hq3, hR3, hs3⟩, hb3⟩; have hb5 := ((show But (· = rb) w1 _ by first | exact but_counted _ _ _ _ | exact but_counted _ _ 0 _ | exact (but_counted _ _ _ _).drewN _)).trans hb3; have HK3 := Lib.hid ((hb5.block w.heap.size hsz1 hne1).trans hb1); obtain ⟨k0, k1, k2, k3⟩ := block4 HK3.out; have z0 := free4 HK3.out 0; have z1 := free4 HK3.out 1; have z2 := free4 HK3.out 2; have z3 := free4 HK3.out 3; have HB4 := Lib.hid (HB1.out.trans hb5); have HR3 := Lib.hid hR3; have HS3 := Lib.hid hs3; have HWS := Lib.hid (ws_of hb3 (by first | exact but_counted _ _ _ _ | exact but_counted _ _ 0 _ | exact (but_counted _ _ _ _).drewN _)); have HV3 := Lib.hid hv3; obtain ⟨hbd3, A3, ca3, rfl, hca3, hA3⟩ := hv3.eq; clear hA3; clear hb5 hb3 hR3 hs3) | (go_at_call 39; refine (HP.out _).mono ?_; rintro e w9 ⟨rfl, rfl⟩)))
      try (go_quiet ((go_at_call 39; exact (HP.out _).mono fun _ _ hh => ⟨hh.1, _, hh.2⟩)); go_wp2_with (first | (go_at_call 42; refine (HPC.out _ (by first | exact HR1.out.counted _ HF2.out | exact HR1.out.counted 0 HF2.out | exact (HR1.out.counted _ HF2.out).keep (belowN _ _ _))).mono ?_; rintro e w3 ⟨⟨v3, rfl, hv3, q3, hq3, hR3, hs3⟩, hb3⟩; have hb5 := ((show But (· = rb) w1 _ by first | exact but_counted _ _ _ _ | exact but_counted _ _ 0 _ | exact (but_counted _ _ _ _).drewN _)).trans hb3; have HK3 := Lib.hid ((hb5.block w.heap.size hsz1 hne1).trans hb1); obtain ⟨k0, k1, k2, k3⟩ := block4 HK3.out; have z0 := free4 HK3.out 0; have z1 := free4 HK3.out 1; have z2 := free4 HK3.out 2; have z3 := free4 HK3.out 3; have HB4 := Lib.hid (HB1.out.trans hb5); have HR3 := Lib.hid hR3; have HS3 := Lib.hid hs3; have HWS := Lib.hid (ws_of hb3 (by first | exact but_counted _ _ _ _ | exact but_counted _ _ 0 _ | exact (but_counted _ _ _ _).drewN _)); have HV3 := Lib.hid hv3; obtain ⟨hbd3, A3, ca3, rfl, hca3, hA3⟩ := hv3.eq; clear hA3; clear hb5 hb3 hR3 hs3) | (go_at_call 39; refine (HP.out _).mono ?_; rintro e w9 ⟨rfl, rfl⟩)))
      try (go_quiet ((go_at_call 39; exact (HP.out _).mono fun _ _ hh => ⟨hh.1, _, hh.2⟩)); go_wp2_with (first | (go_at_call 42; refine (HPC.out _ (by first | exact HR1.out.counted _ HF2.out | exact HR1.out.counted 0 HF2.out | exact (HR1.out.counted _ HF2.out).keep (belowN _ _ _))).mono ?_; rintro e w3 ⟨⟨v3, rfl, hv3, q3, hq3, hR3, hs3⟩, hb3⟩; have hb5 := ((show But (· = rb) w1 _ by first | exact but_counted _ _ _ _ | exact but_counted _ _ 0 _ | exact (but_counted _ _ _ _).drewN _)).trans hb3; have HK3 := Lib.hid ((hb5.block w.heap.size hsz1 hne1).trans hb1); obtain ⟨k0, k1, k2, k3⟩ := block4 HK3.out; have z0 := free4 HK3.out 0; have z1 := free4 HK3.out 1; have z2 := free4 HK3.out 2; have z3 := free4 HK3.out 3; have HB4 := Lib.hid (HB1.out.trans hb5); have HR3 := Lib.hid hR3; have HS3 := Lib.hid hs3; have HWS := Lib.hid (ws_of hb3 (by first | exact but_counted _ _ _ _ | exact but_counted _ _ 0 _ | exact (but_counted _ _ _ _).drewN _)); have HV3 := Lib.hid hv3; obtain ⟨hbd3, A3, ca3, rfl, hca3, hA3⟩ := hv3.eq; clear hA3; clear hb5 hb3 hR3 hs3) | (go_at_call 39; refine (HP.out _).mono ?_; rintro e w9 ⟨rfl, rfl⟩)))
      try (go_quiet ((go_at_call 39; exact (HP.out _).mono fun _ _ hh => ⟨hh.1, _, hh.2⟩)); go_wp2_with (first | (go_at_call 42; refine (HPC.out _ (by first | exact HR1.out.counted _ HF2.out | exact HR1.out.counted 0 HF2.out | exact (HR1.out.counted _ HF2.out).keep (belowN _ _ _))).mono ?_; rintro e w3 ⟨⟨v3, rfl, hv3, q3, hq3, hR3, hs3⟩, hb3⟩; have hb5 := ((show But (· = rb) w1 _ by first | exact but_counted _ _ _ _ | exact but_counted _ _ 0 _ | exact (but_counted _ _ _ _).drewN _)).trans hb3; have HK3 := Lib.hid ((hb5.block w.heap.size hsz1 hne1).trans hb1); obtain ⟨k0, k1, k2, k3⟩ := block4 HK3.out; have z0 := free4 HK3.out 0; have z1 := free4 HK3.out 1; have z2 := free4 HK3.out 2; have z3 := free4 HK3.out 3; have HB4 := Lib.hid (HB1.out.trans hb5); have HR3 := Lib.hid hR3; have HS3 := Lib.hid hs3; have HWS := Lib.hid (ws_of hb3 (by first | exact but_counted _ _ _ _ | exact but_counted _ _ 0 _ | exact (but_counted _ _ _ _).drewN _)); have HV3 := Lib.hid hv3; obtain ⟨hbd3, A3, ca3, rfl, hca3, hA3⟩ := hv3.eq; clear hA3; clear hb5 hb3 hR3 hs3) | (go_at_call 39; refine (HP.out _).mono ?_; rintro e w9 ⟨rfl, rfl⟩)))
      refine bodyPost_ret (v := .agg #[.int .i64 a.1.kind, .int .i64 a.1.num, .string a.1.text, .slice A3 a.1.items.length ca3]) (by simp [results, Tryz.results24, go_sem, k0, k1, k2, k3, hne1, hne2]) rfl (form_ret hrbw (HV3.out.keep (weak_up hsz1 HWS.out)) hq3 HR3.out HS3.out HB4.out)
  rw [if_neg (hne 123 k123)] at hout ⊢
  have q123 : ((b : Int) == 123) = false := by rw [beq_eq_false_iff_ne]; omega
  by_cases k35 : b = 35
  · subst k35
    have h0 : s[p] = 35 := UInt8.toNat_inj.1 hbt
    rw [h0, if_pos rfl] at hout ⊢
    rw [h0, pre_hash] at HP
    by_cases hh : (sfx s (p + 1)).head? = some 123
    · rw [if_pos hh] at hout ⊢
      rw [decide_eq_true hh] at HP
      have hp2 : p + 2 ≤ s.size := by
        rcases Nat.lt_or_ge (p + 1) s.size with h | h
        · omega
        · rw [sfx_end h] at hh; cases hh
      rw [← sfx_tail] at hout ⊢
      have HSC := Lib.hid fun W (hW : Rdr W rb s p (f + 1)) => set_step m n HI.out hS d (f + 1) p rb s W hW hp2 hd16 (R.next_in hout)
      obtain ⟨T0, hT0⟩ : ∃ T0, ((itemsF m n 125 (d + 1) (f + 1) (sfx s (p + 1 + 1))).next fun q => (setR q.1 (s.size - p)).next fun v => R.ok (v, q.2.1, q.2.2.tail)) = T0 := ⟨_, rfl⟩
      rw [hT0] at hout ⊢
      rw [show p + 2 = p + 1 + 1 from rfl, hT0] at HSC
      clear h0 hbt hcons hne k41 k93 k125 kd kf k34 k40 k91 k123 hh hT0
      cases T0 with
      | out => exact absurd rfl hout
      | bad er kk =>
        clear hout
        go_enter Tryz.func24, Tryz.ntmps24
        go_wp2_with (first | (go_at_call 43; refine (HSC.out _ (by first | exact HR1.out.counted _ HF2.out | exact HR1.out.counted 0 HF2.out | exact (HR1.out.counted _ HF2.out).keep (belowN _ _ _))).mono ?_; rintro e w3 ⟨rfl, hb3⟩; have HB4 := Lib.hid (HB1.out.trans (((show But (· = rb) w1 _ by first | exact but_counted _ _ _ _ | exact but_counted _ _ 0 _ | exact (but_counted _ _ _ _).drewN _)).trans hb3))) | (go_at_call 39; refine (HP.out _).mono ?_; rintro e w9 ⟨rfl, rfl⟩))
        try (go_quiet ((go_at_call 39; exact (HP.out _).mono fun _ _ hh => ⟨hh.1, _, hh.2⟩)); go_wp2_with (first | (go_at_call 43; refine (HSC.out _ (by first | exact HR1.out.counted _ HF2.out | exact HR1.out.counted 0 HF2.out | exact (HR1.out.counted _ HF2.out).keep (belowN _ _ _))).mono ?_; rintro e w3 ⟨rfl, hb3⟩; have HB4 := Lib.hid (HB1.out.trans (((show But (· = rb) w1 _ by first | exact but_counted _ _ _ _ | exact but_counted _ _ 0 _ | exact (but_counted _ _ _ _).drewN _)).trans hb3))) | (go_at_call 39; refine (HP.out _).mono ?_; rintro e w9 ⟨rfl, rfl⟩)))
        try (go_quiet ((go_at_call 39; exact (HP.out _).mono fun _ _ hh => ⟨hh.1, _, hh.2⟩)); go_wp2_with (first | (go_at_call 43; refine (HSC.out _ (by first | exact HR1.out.counted _ HF2.out | exact HR1.out.counted 0 HF2.out | exact (HR1.out.counted _ HF2.out).keep (belowN _ _ _))).mono ?_; rintro e w3 ⟨rfl, hb3⟩; have HB4 := Lib.hid (HB1.out.trans (((show But (· = rb) w1 _ by first | exact but_counted _ _ _ _ | exact but_counted _ _ 0 _ | exact (but_counted _ _ _ _).drewN _)).trans hb3))) | (go_at_call 39; refine (HP.out _).mono ?_; rintro e w9 ⟨rfl, rfl⟩)))
        try (go_quiet ((go_at_call 39; exact (HP.out _).mono fun _ _ hh => ⟨hh.1, _, hh.2⟩)); go_wp2_with (first | (go_at_call 43; refine (HSC.out _ (by first | exact HR1.out.counted _ HF2.out | exact HR1.out.counted 0 HF2.out | exact (HR1.out.counted _ HF2.out).keep (belowN _ _ _))).mono ?_; rintro e w3 ⟨rfl, hb3⟩; have HB4 := Lib.hid (HB1.out.trans (((show But (· = rb) w1 _ by first | exact but_counted _ _ _ _ | exact but_counted _ _ 0 _ | exact (but_counted _ _ _ _).drewN _)).trans hb3))) | (go_at_call 39; refine (HP.out _).mono ?_; rintro e w9 ⟨rfl, rfl⟩)))
        try (go_quiet ((go_at_call 39; exact (HP.out _).mono fun _ _ hh => ⟨hh.1, _, hh.2⟩)); go_wp2_with (first | (go_at_call 43; refine (HSC.out _ (by first | exact HR1.out.counted _ HF2.out | exact HR1.out.counted 0 HF2.out | exact (HR1.out.counted _ HF2.out).keep (belowN _ _ _))).mono ?_; rintro e w3 ⟨rfl, hb3⟩; have HB4 := Lib.hid (HB1.out.trans (((show But (· = rb) w1 _ by first | exact but_counted _ _ _ _ | exact but_counted _ _ 0 _ | exact (but_counted _ _ _ _).drewN _)).trans hb3))) | (go_at_call 39; refine (HP.out _).mono ?_; rintro e w9 ⟨rfl, rfl⟩)))
        exact ⟨rfl, rfl, HB4.out⟩
      | ok a =>
        clear hout
        go_enter Tryz.func24, Tryz.ntmps24
        go_wp2_with (first | (go_at_call 43; refine (HSC.out _ (by first | exact HR1.out.counted _ HF2.out | exact HR1.out.counted 0 HF2.out | exact (HR1.out.counted _ HF2.out).keep (belowN _ _ _))).mono ?_; rintro e w3 ⟨⟨v3, rfl, hv3, q3, hq3, hR3, hs3⟩, hb3⟩; have hb5 := ((show But (· = rb) w1 _ by first | exact but_counted _ _ _ _ | exact but_counted _ _ 0 _ | exact (but_counted _ _ _ _).drewN _)).trans hb3; have HK3 := Lib.hid ((hb5.block w.heap.size hsz1 hne1).trans hb1); obtain ⟨k0, k1, k2, k3⟩ := block4 HK3.out; have z0 := free4 HK3.out 0; have z1 := free4 HK3.out 1; have z2 := free4 HK3.out 2; have z3 := free4 HK3.out 3; have HB4 := Lib.hid (HB1.out.trans hb5); have HR3 := Lib.hid hR3; have HS3 := Lib.hid hs3; have HWS := Lib.hid (ws_of hb3 (by first | exact but_counted _ _ _ _ | exact but_counted _ _ 0 _ | exact (but_counted _ _ _ _).drewN _)); have HV3 := Lib.hid hv3; obtain ⟨hbd3, A3, ca3, rfl, hca3, hA3⟩ := hv3.eq; clear hA3; clear hb5 hb3 hR3 hs3) | (go_at_call 39; refine (HP.out _).mono ?_; rintro e w9 ⟨rfl, rfl⟩))
        try (go_quiet ((go_at_call 39; exact (HP.out _).mono fun _ _ hh => ⟨hh.1, _, hh.2⟩)); go_wp2_with (first | (go_at_call 43; refine (HSC.out _ (by first | exact HR1.out.counted _ HF2.out | exact HR1.out.counted 0 HF2.out | exact (HR1.out.counted _ HF2.out).keep (belowN _ _ _))).mono ?_; rintro e w3 ⟨⟨v3, rfl, hv3, q3, hq3, hR3, hs3⟩, hb3⟩; have hb5 := ((show But (· = rb) w1 _ by first | exact but_counted _ _ _ _ | exact but_counted _ _ 0 _ | exact (but_counted _ _ _ _).drewN _)).trans hb3; have HK3 := Lib.hid ((hb5.block w.heap.size hsz1 hne1).trans hb1); obtain ⟨k0, k1, k2, k3⟩ := block4 HK3.out; have z0 := free4 HK3.out 0; have z1 := free4 HK3.out 1; have z2 := free4 HK3.out 2; have z3 := free4 HK3.out 3; have HB4 := Lib.hid (HB1.out.trans hb5); have HR3 := Lib.hid hR3; have HS3 := Lib.hid hs3; have HWS := Lib.hid (ws_of hb3 (by first | exact but_counted _ _ _ _ | exact but_counted _ _ 0 _ | exact (but_counted _ _ _ _).drewN _)); have HV3 := Lib.hid hv3; obtain ⟨hbd3, A3, ca3, rfl, hca3, hA3⟩ := hv3.eq; clear hA3; clear hb5 hb3 hR3 hs3) | (go_at_call 39; refine (HP.out _).mono ?_; rintro e w9 ⟨rfl, rfl⟩)))
        try (go_quiet ((go_at_call 39; exact (HP.out _).mono fun _ _ hh => ⟨hh.1, _, hh.2⟩)); go_wp2_with (first | (go_at_call 43; refine (HSC.out _ (by first | exact HR1.out.counted _ HF2.out | exact HR1.out.counted 0 HF2.out | exact (HR1.out.counted _ HF2.out).keep (belowN _ _ _))).mono ?_; rintro e w3 ⟨⟨v3, rfl, hv3, q3, hq3, hR3, hs3⟩, hb3⟩; have hb5 := ((show But (· = rb) w1 _ by first | exact but_counted _ _ _ _ | exact but_counted _ _ 0 _ | exact (but_counted _ _ _ _).drewN _)).trans hb3; have HK3 := Lib.hid ((hb5.block w.heap.size hsz1 hne1).trans hb1); obtain ⟨k0, k1, k2, k3⟩ := block4 HK3.out; have z0 := free4 HK3.out 0; have z1 := free4 HK3.out 1; have z2 := free4 HK3.out 2; have z3 := free4 HK3.out 3; have HB4 := Lib.hid (HB1.out.trans hb5); have HR3 := Lib.hid hR3; have HS3 := Lib.hid hs3; have HWS := Lib.hid (ws_of hb3 (by first | exact but_counted _ _ _ _ | exact but_counted _ _ 0 _ | exact (but_counted _ _ _ _).drewN _)); have HV3 := Lib.hid hv3; obtain ⟨hbd3, A3, ca3, rfl, hca3, hA3⟩ := hv3.eq; clear hA3; clear hb5 hb3 hR3 hs3) | (go_at_call 39; refine (HP.out _).mono ?_; rintro e w9 ⟨rfl, rfl⟩)))
        try (go_quiet ((go_at_call 39; exact (HP.out _).mono fun _ _ hh => ⟨hh.1, _, hh.2⟩)); go_wp2_with (first | (go_at_call 43; refine (HSC.out _ (by first | exact HR1.out.counted _ HF2.out | exact HR1.out.counted 0 HF2.out | exact (HR1.out.counted _ HF2.out).keep (belowN _ _ _))).mono ?_; rintro e w3 ⟨⟨v3, rfl, hv3, q3, hq3, hR3, hs3⟩, hb3⟩; have hb5 := ((show But (· = rb) w1 _ by first | exact but_counted _ _ _ _ | exact but_counted _ _ 0 _ | exact (but_counted _ _ _ _).drewN _)).trans hb3; have HK3 := Lib.hid ((hb5.block w.heap.size hsz1 hne1).trans hb1); obtain ⟨k0, k1, k2, k3⟩ := block4 HK3.out; have z0 := free4 HK3.out 0; have z1 := free4 HK3.out 1; have z2 := free4 HK3.out 2; have z3 := free4 HK3.out 3; have HB4 := Lib.hid (HB1.out.trans hb5); have HR3 := Lib.hid hR3; have HS3 := Lib.hid hs3; have HWS := Lib.hid (ws_of hb3 (by first | exact but_counted _ _ _ _ | exact but_counted _ _ 0 _ | exact (but_counted _ _ _ _).drewN _)); have HV3 := Lib.hid hv3; obtain ⟨hbd3, A3, ca3, rfl, hca3, hA3⟩ := hv3.eq; clear hA3; clear hb5 hb3 hR3 hs3) | (go_at_call 39; refine (HP.out _).mono ?_; rintro e w9 ⟨rfl, rfl⟩)))
        try (go_quiet ((go_at_call 39; exact (HP.out _).mono fun _ _ hh => ⟨hh.1, _, hh.2⟩)); go_wp2_with (first | (go_at_call 43; refine (HSC.out _ (by first | exact HR1.out.counted _ HF2.out | exact HR1.out.counted 0 HF2.out | exact (HR1.out.counted _ HF2.out).keep (belowN _ _ _))).mono ?_; rintro e w3 ⟨⟨v3, rfl, hv3, q3, hq3, hR3, hs3⟩, hb3⟩; have hb5 := ((show But (· = rb) w1 _ by first | exact but_counted _ _ _ _ | exact but_counted _ _ 0 _ | exact (but_counted _ _ _ _).drewN _)).trans hb3; have HK3 := Lib.hid ((hb5.block w.heap.size hsz1 hne1).trans hb1); obtain ⟨k0, k1, k2, k3⟩ := block4 HK3.out; have z0 := free4 HK3.out 0; have z1 := free4 HK3.out 1; have z2 := free4 HK3.out 2; have z3 := free4 HK3.out 3; have HB4 := Lib.hid (HB1.out.trans hb5); have HR3 := Lib.hid hR3; have HS3 := Lib.hid hs3; have HWS := Lib.hid (ws_of hb3 (by first | exact but_counted _ _ _ _ | exact but_counted _ _ 0 _ | exact (but_counted _ _ _ _).drewN _)); have HV3 := Lib.hid hv3; obtain ⟨hbd3, A3, ca3, rfl, hca3, hA3⟩ := hv3.eq; clear hA3; clear hb5 hb3 hR3 hs3) | (go_at_call 39; refine (HP.out _).mono ?_; rintro e w9 ⟨rfl, rfl⟩)))
        refine bodyPost_ret (v := .agg #[.int .i64 a.1.kind, .int .i64 a.1.num, .string a.1.text, .slice A3 a.1.items.length ca3]) (by simp [results, Tryz.results24, go_sem, k0, k1, k2, k3, hne1, hne2]) rfl (form_ret hrbw (HV3.out.keep (weak_up hsz1 HWS.out)) hq3 HR3.out HS3.out HB4.out)
    · rw [if_neg hh] at hout ⊢
      rw [decide_eq_false hh] at HP
      unfold PostM
      dsimp only
      rw [hpp]
      clear hout h0 hbt hcons hne k41 k93 k125 kd kf k34 k40 k91 k123 hh
      go_enter Tryz.func24, Tryz.ntmps24
      go_wp2_with (first | (go_at_call 25; refine (fail_calls _ _ _ _).mono ?_; rintro e w8 ⟨rfl, rfl⟩) | (go_at_call 39; refine (HP.out _).mono ?_; rintro e w9 ⟨rfl, rfl⟩))
      try (go_quiet ((go_at_call 39; exact (HP.out _).mono fun _ _ hh => ⟨hh.1, _, hh.2⟩)); go_wp2_with (first | (go_at_call 25; refine (fail_calls _ _ _ _).mono ?_; rintro e w8 ⟨rfl, rfl⟩) | (go_at_call 39; refine (HP.out _).mono ?_; rintro e w9 ⟨rfl, rfl⟩)))
      try (go_quiet ((go_at_call 39; exact (HP.out _).mono fun _ _ hh => ⟨hh.1, _, hh.2⟩)); go_wp2_with (first | (go_at_call 25; refine (fail_calls _ _ _ _).mono ?_; rintro e w8 ⟨rfl, rfl⟩) | (go_at_call 39; refine (HP.out _).mono ?_; rintro e w9 ⟨rfl, rfl⟩)))
      try (go_quiet ((go_at_call 39; exact (HP.out _).mono fun _ _ hh => ⟨hh.1, _, hh.2⟩)); go_wp2_with (first | (go_at_call 25; refine (fail_calls _ _ _ _).mono ?_; rintro e w8 ⟨rfl, rfl⟩) | (go_at_call 39; refine (HP.out _).mono ?_; rintro e w9 ⟨rfl, rfl⟩)))
      try (go_quiet ((go_at_call 39; exact (HP.out _).mono fun _ _ hh => ⟨hh.1, _, hh.2⟩)); go_wp2_with (first | (go_at_call 25; refine (fail_calls _ _ _ _).mono ?_; rintro e w8 ⟨rfl, rfl⟩) | (go_at_call 39; refine (HP.out _).mono ?_; rintro e w9 ⟨rfl, rfl⟩)))
      exact ⟨rfl, rfl, HB1.out.trans (show But (· = rb) w1 _ by first | exact but_counted _ _ _ _ | exact but_counted _ _ 0 _ | exact (but_counted _ _ _ _).drewN _)⟩
  rw [if_neg (hne 35 k35)] at hout ⊢
  rw [pre_other (hne 35 k35)] at HP
  have q35 : ((b : Int) == 35) = false := by rw [beq_eq_false_iff_ne]; omega
  rw [← hcons] at hout ⊢
  have HWD := Lib.hid fun W (hW : Rdr W rb s p (f + 1)) => worded_calls rb s p (f + 1) W hW.at' hW.place hs16 hW.tabs hW.big
  clear hbt hcons hne k41 k93 k125 kd kf k34 k40 k91 k123 k35
  cases hA : wordV (wordL (sfx s p)) (s.size - p) with
  | out => rw [hA] at hout; exact absurd rfl hout
  | bad er kk =>
    rw [hA] at HWD
    rw [R.next_bad]
    clear hout hA
    go_enter Tryz.func24, Tryz.ntmps24
    go_wp2_with (first | (go_at_call 44; refine (HWD.out _ (by first | exact HR1.out.counted _ HF2.out | exact HR1.out.counted 0 HF2.out | exact (HR1.out.counted _ HF2.out).keep (belowN _ _ _))).mono ?_; rintro e w3 ⟨rfl, hb3⟩; have HB4 := Lib.hid (HB1.out.trans (((show But (· = rb) w1 _ by first | exact but_counted _ _ _ _ | exact but_counted _ _ 0 _ | exact (but_counted _ _ _ _).drewN _)).trans hb3))) | (go_at_call 39; refine (HP.out _).mono ?_; rintro e w9 ⟨rfl, rfl⟩))
    try (go_quiet ((go_at_call 39; exact (HP.out _).mono fun _ _ hh => ⟨hh.1, _, hh.2⟩)); go_wp2_with (first | (go_at_call 44; refine (HWD.out _ (by first | exact HR1.out.counted _ HF2.out | exact HR1.out.counted 0 HF2.out | exact (HR1.out.counted _ HF2.out).keep (belowN _ _ _))).mono ?_; rintro e w3 ⟨rfl, hb3⟩; have HB4 := Lib.hid (HB1.out.trans (((show But (· = rb) w1 _ by first | exact but_counted _ _ _ _ | exact but_counted _ _ 0 _ | exact (but_counted _ _ _ _).drewN _)).trans hb3))) | (go_at_call 39; refine (HP.out _).mono ?_; rintro e w9 ⟨rfl, rfl⟩)))
    try (go_quiet ((go_at_call 39; exact (HP.out _).mono fun _ _ hh => ⟨hh.1, _, hh.2⟩)); go_wp2_with (first | (go_at_call 44; refine (HWD.out _ (by first | exact HR1.out.counted _ HF2.out | exact HR1.out.counted 0 HF2.out | exact (HR1.out.counted _ HF2.out).keep (belowN _ _ _))).mono ?_; rintro e w3 ⟨rfl, hb3⟩; have HB4 := Lib.hid (HB1.out.trans (((show But (· = rb) w1 _ by first | exact but_counted _ _ _ _ | exact but_counted _ _ 0 _ | exact (but_counted _ _ _ _).drewN _)).trans hb3))) | (go_at_call 39; refine (HP.out _).mono ?_; rintro e w9 ⟨rfl, rfl⟩)))
    try (go_quiet ((go_at_call 39; exact (HP.out _).mono fun _ _ hh => ⟨hh.1, _, hh.2⟩)); go_wp2_with (first | (go_at_call 44; refine (HWD.out _ (by first | exact HR1.out.counted _ HF2.out | exact HR1.out.counted 0 HF2.out | exact (HR1.out.counted _ HF2.out).keep (belowN _ _ _))).mono ?_; rintro e w3 ⟨rfl, hb3⟩; have HB4 := Lib.hid (HB1.out.trans (((show But (· = rb) w1 _ by first | exact but_counted _ _ _ _ | exact but_counted _ _ 0 _ | exact (but_counted _ _ _ _).drewN _)).trans hb3))) | (go_at_call 39; refine (HP.out _).mono ?_; rintro e w9 ⟨rfl, rfl⟩)))
    try (go_quiet ((go_at_call 39; exact (HP.out _).mono fun _ _ hh => ⟨hh.1, _, hh.2⟩)); go_wp2_with (first | (go_at_call 44; refine (HWD.out _ (by first | exact HR1.out.counted _ HF2.out | exact HR1.out.counted 0 HF2.out | exact (HR1.out.counted _ HF2.out).keep (belowN _ _ _))).mono ?_; rintro e w3 ⟨rfl, hb3⟩; have HB4 := Lib.hid (HB1.out.trans (((show But (· = rb) w1 _ by first | exact but_counted _ _ _ _ | exact but_counted _ _ 0 _ | exact (but_counted _ _ _ _).drewN _)).trans hb3))) | (go_at_call 39; refine (HP.out _).mono ?_; rintro e w9 ⟨rfl, rfl⟩)))
    exact ⟨rfl, rfl, HB4.out⟩
  | ok a =>
    have HAT := Lib.hid (word_atom hA)
    rw [hA] at HWD
    rw [R.next_ok]
    clear hout hA
    go_enter Tryz.func24, Tryz.ntmps24
    go_wp2_with (first | (go_at_call 44; refine (HWD.out _ (by first | exact HR1.out.counted _ HF2.out | exact HR1.out.counted 0 HF2.out | exact (HR1.out.counted _ HF2.out).keep (belowN _ _ _))).mono ?_; rintro e w3 ⟨⟨v3, rfl, hv3, q3, hq3, hR3, hs3⟩, hb3⟩; have hb5 := ((show But (· = rb) w1 _ by first | exact but_counted _ _ _ _ | exact but_counted _ _ 0 _ | exact (but_counted _ _ _ _).drewN _)).trans hb3; have HK3 := Lib.hid ((hb5.block w.heap.size hsz1 hne1).trans hb1); obtain ⟨k0, k1, k2, k3⟩ := block4 HK3.out; have z0 := free4 HK3.out 0; have z1 := free4 HK3.out 1; have z2 := free4 HK3.out 2; have z3 := free4 HK3.out 3; have HB4 := Lib.hid (HB1.out.trans hb5); have HR3 := Lib.hid hR3; have HS3 := Lib.hid hs3; obtain rfl : v3 = .agg #[.int .i64 a.kind, .int .i64 a.num, .string a.text, .slice none 0 0] := hv3; clear hb5 hb3 hR3 hs3) | (go_at_call 39; refine (HP.out _).mono ?_; rintro e w9 ⟨rfl, rfl⟩))
    try (go_quiet ((go_at_call 39; exact (HP.out _).mono fun _ _ hh => ⟨hh.1, _, hh.2⟩)); go_wp2_with (first | (go_at_call 44; refine (HWD.out _ (by first | exact HR1.out.counted _ HF2.out | exact HR1.out.counted 0 HF2.out | exact (HR1.out.counted _ HF2.out).keep (belowN _ _ _))).mono ?_; rintro e w3 ⟨⟨v3, rfl, hv3, q3, hq3, hR3, hs3⟩, hb3⟩; have hb5 := ((show But (· = rb) w1 _ by first | exact but_counted _ _ _ _ | exact but_counted _ _ 0 _ | exact (but_counted _ _ _ _).drewN _)).trans hb3; have HK3 := Lib.hid ((hb5.block w.heap.size hsz1 hne1).trans hb1); obtain ⟨k0, k1, k2, k3⟩ := block4 HK3.out; have z0 := free4 HK3.out 0; have z1 := free4 HK3.out 1; have z2 := free4 HK3.out 2; have z3 := free4 HK3.out 3; have HB4 := Lib.hid (HB1.out.trans hb5); have HR3 := Lib.hid hR3; have HS3 := Lib.hid hs3; obtain rfl : v3 = .agg #[.int .i64 a.kind, .int .i64 a.num, .string a.text, .slice none 0 0] := hv3; clear hb5 hb3 hR3 hs3) | (go_at_call 39; refine (HP.out _).mono ?_; rintro e w9 ⟨rfl, rfl⟩)))
    try (go_quiet ((go_at_call 39; exact (HP.out _).mono fun _ _ hh => ⟨hh.1, _, hh.2⟩)); go_wp2_with (first | (go_at_call 44; refine (HWD.out _ (by first | exact HR1.out.counted _ HF2.out | exact HR1.out.counted 0 HF2.out | exact (HR1.out.counted _ HF2.out).keep (belowN _ _ _))).mono ?_; rintro e w3 ⟨⟨v3, rfl, hv3, q3, hq3, hR3, hs3⟩, hb3⟩; have hb5 := ((show But (· = rb) w1 _ by first | exact but_counted _ _ _ _ | exact but_counted _ _ 0 _ | exact (but_counted _ _ _ _).drewN _)).trans hb3; have HK3 := Lib.hid ((hb5.block w.heap.size hsz1 hne1).trans hb1); obtain ⟨k0, k1, k2, k3⟩ := block4 HK3.out; have z0 := free4 HK3.out 0; have z1 := free4 HK3.out 1; have z2 := free4 HK3.out 2; have z3 := free4 HK3.out 3; have HB4 := Lib.hid (HB1.out.trans hb5); have HR3 := Lib.hid hR3; have HS3 := Lib.hid hs3; obtain rfl : v3 = .agg #[.int .i64 a.kind, .int .i64 a.num, .string a.text, .slice none 0 0] := hv3; clear hb5 hb3 hR3 hs3) | (go_at_call 39; refine (HP.out _).mono ?_; rintro e w9 ⟨rfl, rfl⟩)))
    try (go_quiet ((go_at_call 39; exact (HP.out _).mono fun _ _ hh => ⟨hh.1, _, hh.2⟩)); go_wp2_with (first | (go_at_call 44; refine (HWD.out _ (by first | exact HR1.out.counted _ HF2.out | exact HR1.out.counted 0 HF2.out | exact (HR1.out.counted _ HF2.out).keep (belowN _ _ _))).mono ?_; rintro e w3 ⟨⟨v3, rfl, hv3, q3, hq3, hR3, hs3⟩, hb3⟩; have hb5 := ((show But (· = rb) w1 _ by first | exact but_counted _ _ _ _ | exact but_counted _ _ 0 _ | exact (but_counted _ _ _ _).drewN _)).trans hb3; have HK3 := Lib.hid ((hb5.block w.heap.size hsz1 hne1).trans hb1); obtain ⟨k0, k1, k2, k3⟩ := block4 HK3.out; have z0 := free4 HK3.out 0; have z1 := free4 HK3.out 1; have z2 := free4 HK3.out 2; have z3 := free4 HK3.out 3; have HB4 := Lib.hid (HB1.out.trans hb5); have HR3 := Lib.hid hR3; have HS3 := Lib.hid hs3; obtain rfl : v3 = .agg #[.int .i64 a.kind, .int .i64 a.num, .string a.text, .slice none 0 0] := hv3; clear hb5 hb3 hR3 hs3) | (go_at_call 39; refine (HP.out _).mono ?_; rintro e w9 ⟨rfl, rfl⟩)))
    try (go_quiet ((go_at_call 39; exact (HP.out _).mono fun _ _ hh => ⟨hh.1, _, hh.2⟩)); go_wp2_with (first | (go_at_call 44; refine (HWD.out _ (by first | exact HR1.out.counted _ HF2.out | exact HR1.out.counted 0 HF2.out | exact (HR1.out.counted _ HF2.out).keep (belowN _ _ _))).mono ?_; rintro e w3 ⟨⟨v3, rfl, hv3, q3, hq3, hR3, hs3⟩, hb3⟩; have hb5 := ((show But (· = rb) w1 _ by first | exact but_counted _ _ _ _ | exact but_counted _ _ 0 _ | exact (but_counted _ _ _ _).drewN _)).trans hb3; have HK3 := Lib.hid ((hb5.block w.heap.size hsz1 hne1).trans hb1); obtain ⟨k0, k1, k2, k3⟩ := block4 HK3.out; have z0 := free4 HK3.out 0; have z1 := free4 HK3.out 1; have z2 := free4 HK3.out 2; have z3 := free4 HK3.out 3; have HB4 := Lib.hid (HB1.out.trans hb5); have HR3 := Lib.hid hR3; have HS3 := Lib.hid hs3; obtain rfl : v3 = .agg #[.int .i64 a.kind, .int .i64 a.num, .string a.text, .slice none 0 0] := hv3; clear hb5 hb3 hR3 hs3) | (go_at_call 39; refine (HP.out _).mono ?_; rintro e w9 ⟨rfl, rfl⟩)))
    refine bodyPost_ret (v := .agg #[.int .i64 a.kind, .int .i64 a.num, .string a.text, .slice none 0 0]) (by simp [results, Tryz.results24, go_sem, k0, k1, k2, k3, hne1, hne2]) rfl (form_ret hrbw (HAT.out _ _) hq3 HR3.out HS3.out HB4.out)
end Go.Proofs.YtoiipdknamgcmaaGreatDoor
