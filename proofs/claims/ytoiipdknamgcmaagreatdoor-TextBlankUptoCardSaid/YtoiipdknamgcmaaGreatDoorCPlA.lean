/- The reader's fuel: more of it changes nothing, and there is enough for every text. Numbers and texts, as they are printed, are read as they were. What is printed is read as it was: in plain Lean. A right value's printed form is read as the value: in plain Lean. Texts of whole letters, as lists of bytes. What is read is right: in plain Lean. Blanks and remarks ahead of a text and behind it: in plain Lean. What is wrong has a number; a printed form is of whole letters. -/
import Derived.Lib.ParseIntBCases
import Derived.Lib.ItoaNum
import Derived.Lib.TrimUEq
import Derived.Lib.ParseIntBTie
import Derived.Test.YtoiipdknamgcmaaGreatDoorCRdA
import Derived.Test.YtoiipdknamgcmaaGreatDoorCTxG
import Derived.Test.YtoiipdknamgcmaaGreatDoorCSoF
/- The reader's fuel: more of it changes nothing, and there is enough for every text. -/
set_option linter.unusedVariables false
set_option linter.unusedSimpArgs false
namespace Go.Proofs.YtoiipdknamgcmaaGreatDoor
open Go.RowKit Go.Shelf

/-- The second answer is the first, if that is one. -/
def Ext {α : Type} (r r' : R α) : Prop := r ≠ .out → r' = r
theorem Ext.rfl {α : Type} (r : R α) : Ext r r := fun _ => Eq.refl r
theorem Ext.next {α β : Type} {r r' : R α} {f f' : α → R β} (h : Ext r r') (hf : ∀ a, Ext (f a) (f' a)) : Ext (r.next f) (r'.next f') := by
  intro hn
  cases hr : r with
  | out => rw [hr] at hn; exact absurd (Eq.refl _) hn
  | bad e k =>
    rw [h (by rw [hr]; intro e; cases e), hr]
    exact Eq.refl _
  | ok a =>
    rw [h (by rw [hr]; intro e; cases e), hr, R.next_ok, R.next_ok]
    rw [hr, R.next_ok] at hn
    exact hf a hn
theorem Ext.ite {α : Type} {p : Prop} [Decidable p] {a a' b b' : R α} (h : Ext a a') (k : Ext b b') : Ext (if p then a else b) (if p then a' else b') := by
  by_cases hp : p
  · rw [if_pos hp, if_pos hp]; exact h
  · rw [if_neg hp, if_neg hp]; exact k
theorem ext_step (m : Bool) : ∀ n, (∀ d f l, Ext (skipF m n d f l) (skipF m (n + 1) d f l)) ∧ (∀ d f l, Ext (formF m n d f l) (formF m (n + 1) d f l)) ∧ (∀ e d f l, Ext (itemsF m n e d f l) (itemsF m (n + 1) e d f l))
  | 0 => ⟨fun d f l h => absurd (by rw [skipF]) h, fun d f l h => absurd (by rw [formF]) h, fun e d f l h => absurd (by rw [itemsF]) h⟩
  | n + 1 => by
    obtain ⟨h1, h2, h3⟩ := ext_step m n
    refine ⟨fun d f l => ?_, fun d f l => ?_, fun e d f l => ?_⟩
    · rw [skipF, skipF.eq_2 m d f l (n + 1)]
      split
      · exact (h1 _ _ _).next fun a => (h2 _ _ _).next fun b => h1 _ _ _
      · exact Ext.rfl _
    · cases l with
      | nil => rw [formF, formF]; exact Ext.rfl _
      | cons c t =>
        rw [formF, formF.eq_3 m d f (n + 1) c t]
        refine Ext.ite (Ext.rfl _) (Ext.ite (Ext.rfl _) (Ext.ite (Ext.rfl _) (Ext.ite (Ext.rfl _) (Ext.ite ?_ (Ext.ite ?_ (Ext.ite ?_ (Ext.ite (Ext.ite ?_ (Ext.rfl _)) (Ext.rfl _))))))))
        · exact (h3 _ _ _ _).next fun a => Ext.rfl _
        · exact (h3 _ _ _ _).next fun a => Ext.rfl _
        · exact (h3 _ _ _ _).next fun a => Ext.rfl _
        · exact (h3 _ _ _ _).next fun a => Ext.rfl _
    · rw [itemsF, itemsF.eq_2 m e d f l (n + 1)]
      refine (h1 _ _ _).next fun a => ?_
      split
      · exact Ext.rfl _
      · exact (h2 _ _ _).next fun b => (h3 _ _ _ _).next fun c => Ext.rfl _
theorem Ext.trans {α : Type} {a b c : R α} (h : Ext a b) (k : Ext b c) : Ext a c := fun hn => by
  have h1 := h hn
  rw [k (by rw [h1]; exact hn), h1]
theorem skipF_more {m : Bool} {n : Nat} (k : Nat) (d f : Nat) (l : Bs) : Ext (skipF m n d f l) (skipF m (n + k) d f l) := by
  induction k with
  | zero => exact Ext.rfl _
  | succ k ih => exact ih.trans ((ext_step m (n + k)).1 d f l)
theorem formF_more {m : Bool} {n : Nat} (k : Nat) (d f : Nat) (l : Bs) : Ext (formF m n d f l) (formF m (n + k) d f l) := by
  induction k with
  | zero => exact Ext.rfl _
  | succ k ih => exact ih.trans ((ext_step m (n + k)).2.1 d f l)
theorem itemsF_more {m : Bool} {n : Nat} (k : Nat) (e : UInt8) (d f : Nat) (l : Bs) : Ext (itemsF m n e d f l) (itemsF m (n + k) e d f l) := by
  induction k with
  | zero => exact Ext.rfl _
  | succ k ih => exact ih.trans ((ext_step m (n + k)).2.2 e d f l)
theorem skipF_up {m : Bool} {n N d f : Nat} {l : Bs} {a : Nat × Bs} (h : skipF m n d f l = .ok a) (hN : n ≤ N) : skipF m N d f l = .ok a := by
  obtain ⟨k, rfl⟩ := Nat.exists_eq_add_of_le hN
  rw [skipF_more k d f l (by rw [h]; intro e; cases e), h]
theorem formF_up {m : Bool} {n N d f : Nat} {l : Bs} {a : V × Nat × Bs} (h : formF m n d f l = .ok a) (hN : n ≤ N) : formF m N d f l = .ok a := by
  obtain ⟨k, rfl⟩ := Nat.exists_eq_add_of_le hN
  rw [formF_more k d f l (by rw [h]; intro e; cases e), h]
theorem itemsF_up {m : Bool} {n N d f : Nat} {e : UInt8} {l : Bs} {a : List V × Nat × Bs} (h : itemsF m n e d f l = .ok a) (hN : n ≤ N) : itemsF m N e d f l = .ok a := by
  obtain ⟨k, rfl⟩ := Nat.exists_eq_add_of_le hN
  rw [itemsF_more k e d f l (by rw [h]; intro e; cases e), h]
theorem wholeF_more {m : Bool} {n : Nat} (k : Nat) (l : Bs) : Ext (wholeF m n l) (wholeF m (n + k) l) :=
  (skipF_more k 0 0 l).next fun p => (formF_more k 0 p.1 p.2).next fun q => (skipF_more k 0 q.2.1 q.2.2).next fun r => Ext.rfl _
/-- The two fuels' answers are one, if both are answers. -/
theorem wholeF_same {m : Bool} {n N : Nat} {l : Bs} (h : wholeF m n l ≠ .out) (k : wholeF m N l ≠ .out) : wholeF m n l = wholeF m N l := by
  rcases Nat.le_total n N with e | e
  · obtain ⟨j, rfl⟩ := Nat.exists_eq_add_of_le e
    exact (wholeF_more j l h).symm
  · obtain ⟨j, rfl⟩ := Nat.exists_eq_add_of_le e
    exact wholeF_more j l k
theorem next_in {α β : Type} {r : R α} {f : α → R β} (h : r ≠ .out) (hf : ∀ a, r = .ok a → f a ≠ .out) : r.next f ≠ .out := by
  cases hr : r with
  | out => exact absurd hr h
  | bad e k => intro e; cases e
  | ok a => rw [R.next_ok]; exact hf a hr
theorem ok_in {α : Type} (a : α) : R.ok a ≠ .out := fun e => by cases e
theorem bad_in {α : Type} (e : Int) (k : Nat) : (R.bad e k : R α) ≠ .out := fun e => by cases e
theorem setR_in (l : List V) (k : Nat) : setR l k ≠ .out := by
  unfold setR
  split
  · exact ok_in _
  · exact bad_in _ _
theorem mapR_in (l : List V) (k : Nat) : mapR true l k ≠ .out := by
  unfold mapR
  rw [if_neg (by decide)]
  split
  · exact ok_in _
  · exact bad_in _ _
theorem wordV_in (w : Bs) (k : Nat) : wordV w k ≠ .out := by
  unfold wordV
  split
  · exact ok_in _
  split
  · exact ok_in _
  split
  · exact ok_in _
  split
  · exact bad_in _ _
  split
  · exact bad_in _ _
  · exact bad_in _ _
  · exact ok_in _
/-- Three times the bytes that are left, and some: that is fuel enough. -/
theorem enough : ∀ n, (∀ d f l, 3 * l.length + 2 ≤ n → skipF true n d f l ≠ .out) ∧ (∀ d f l, 3 * l.length + 1 ≤ n → formF true n d f l ≠ .out) ∧ (∀ e d f l, 3 * l.length + 3 ≤ n → itemsF true n e d f l ≠ .out)
  | 0 => ⟨fun d f l h => by omega, fun d f l h => by omega, fun e d f l h => by omega⟩
  | n + 1 => by
    obtain ⟨h1, h2, h3⟩ := enough n
    refine ⟨fun d f l hl => ?_, fun d f l hl => ?_, fun e d f l hl => ?_⟩
    · rw [skipF]
      have h0 := spaceL_le l false
      split
      · rename_i hp
        have hp2 : 2 ≤ (spaceL false l).length := by
          rcases hq : spaceL false l with _ | ⟨a, _ | ⟨b, t⟩⟩
          · rw [hq] at hp; revert hp; decide
          · rw [hq] at hp; revert hp; simp [Lib.hasPrefix]
          · simp
        have hd : ((spaceL false l).drop 2).length + 2 ≤ l.length := by rw [List.length_drop]; omega
        refine next_in (h1 _ _ _ (by omega)) fun a ha => ?_
        have k1 := skipF_le _ _ _ _ _ _ ha
        refine next_in (h2 _ _ _ (by omega)) fun b hb => ?_
        have k2 := formF_lt _ _ _ _ _ _ hb
        exact h1 _ _ _ (by omega)
      · exact ok_in _
    · cases l with
      | nil => rw [formF]; exact bad_in _ _
      | cons c t =>
        rw [List.length_cons] at hl
        rw [formF]
        split
        · exact bad_in _ _
        split
        · exact bad_in _ _
        split
        · exact bad_in _ _
        split
        · refine next_in (textF_in _ _ (by omega)) fun a _ => ?_
          split
          · exact bad_in _ _
          · exact ok_in _
        split
        · exact next_in (h3 _ _ _ _ (by omega)) fun a _ => ok_in _
        split
        · exact next_in (h3 _ _ _ _ (by omega)) fun a _ => ok_in _
        split
        · refine next_in (h3 _ _ _ _ (by omega)) fun a _ => ?_
          split
          · exact bad_in _ _
          · exact next_in (mapR_in _ _) fun _ _ => ok_in _
        split
        · split
          · refine next_in (h3 _ _ _ _ (by rw [List.length_tail]; omega)) fun a _ => next_in (setR_in _ _) fun _ _ => ok_in _
          · exact bad_in _ _
        · exact next_in (wordV_in _ _) fun _ _ => ok_in _
    · rw [itemsF]
      refine next_in (h1 _ _ _ (by omega)) fun a ha => ?_
      have k1 := skipF_le _ _ _ _ _ _ ha
      split
      · exact ok_in _
      · refine next_in (h2 _ _ _ (by omega)) fun b hb => ?_
        have k2 := formF_lt _ _ _ _ _ _ hb
        exact next_in (h3 _ _ _ _ (by omega)) fun c _ => ok_in _
def fuelB (l : Bs) : Nat := 3 * l.length + 3
theorem wholeF_in (l : Bs) : wholeF true (fuelB l) l ≠ .out := by
  have h := enough (fuelB l)
  unfold fuelB at h ⊢
  refine next_in (h.1 _ _ _ (by omega)) fun a ha => ?_
  have k1 := skipF_le _ _ _ _ _ _ ha
  refine next_in (h.2.1 _ _ _ (by omega)) fun b hb => ?_
  have k2 := formF_lt _ _ _ _ _ _ hb
  refine next_in (h.1 _ _ _ (by omega)) fun c _ => ?_
  split
  · exact ok_in _
  · exact bad_in _ _
end Go.Proofs.YtoiipdknamgcmaaGreatDoor

/- Numbers and texts, as they are printed, are read as they were. -/
set_option linter.unusedVariables false
set_option linter.unusedSimpArgs false
namespace Go.Proofs.YtoiipdknamgcmaaGreatDoor
open Go.RowKit Go.Shelf

theorem digit_fin : ∀ i : Fin 10, (UInt8.ofNat (48 + i.val)).toNat = 48 + i.val := by decide
theorem digit_toNat {d : Nat} (h : d < 10) : (UInt8.ofNat (48 + d)).toNat = 48 + d := digit_fin ⟨d, h⟩
/-- A byte that is a digit. -/
def isDig (c : UInt8) : Prop := 48 ≤ c.toNat ∧ c.toNat ≤ 57
instance (c : UInt8) : Decidable (isDig c) := by unfold isDig; infer_instance
theorem dec_digits (u : Nat) : ∀ c ∈ Lib.decDigits u, isDig c := by
  induction u using Nat.strongRecOn with
  | _ u ih =>
    intro c hc
    rw [Lib.decDigits] at hc
    split at hc
    · rename_i h
      rw [List.mem_singleton.1 hc]
      unfold isDig
      rw [digit_toNat h]
      omega
    · rcases List.mem_append.1 hc with hc | hc
      · exact ih (u / 10) (by omega) c hc
      · rw [List.mem_singleton.1 hc]
        unfold isDig
        rw [digit_toNat (Nat.mod_lt _ (by omega))]
        omega
theorem dec_pos (u : Nat) : Lib.decDigits u ≠ [] := by
  intro h
  have h1 := Lib.decDigits_length u
  have h2 := Lib.nDigits_pos u
  rw [h, List.length_nil] at h1
  omega
theorem dec_parse (M : Nat) (hM : M = 18446744073709551615) (u : Nat) (hu : u ≤ M) : ∀ r, Lib.parseUintM M 0 (Lib.decDigits u ++ r) = Lib.parseUintM M u r := by
  induction u using Nat.strongRecOn with
  | _ u ih =>
    intro r
    rw [Lib.decDigits]
    split
    · rename_i h
      rw [List.singleton_append, Lib.parseUintM, digit_toNat h, if_pos (by omega), if_neg (by omega), if_neg (by omega)]
      congr 1
      omega
    · rename_i h
      have hm : u % 10 < 10 := Nat.mod_lt _ (by omega)
      rw [List.append_assoc, ih (u / 10) (by omega) (by omega), List.singleton_append, Lib.parseUintM, digit_toNat hm, if_pos (by omega), if_neg (by omega), if_neg (by omega)]
      congr 1
      omega
theorem dec_uint (u : Nat) (hu : u ≤ 18446744073709551615) : Lib.parseUintB 64 (Lib.decDigits u) = .ok u := by
  unfold Lib.parseUintB
  rw [if_neg (dec_pos u)]
  have h := dec_parse (2 ^ 64 - 1) (by decide) u (by omega) []
  rw [List.append_nil] at h
  rw [h, Lib.parseUintM]
theorem dec_head (u : Nat) : u < 10 ∨ ∃ c t, Lib.decDigits u = c :: t ∧ c ≠ 48 := by
  induction u using Nat.strongRecOn with
  | _ u ih =>
    by_cases h : u < 10
    · exact .inl h
    · refine .inr ?_
      rw [Lib.decDigits, dif_neg h]
      rcases ih (u / 10) (by omega) with h1 | ⟨c, t, h1, h2⟩
      · refine ⟨UInt8.ofNat (48 + u / 10), [UInt8.ofNat (48 + u % 10)], by rw [Lib.decDigits, dif_pos h1]; rfl, fun e => ?_⟩
        have h3 := digit_toNat h1
        rw [e] at h3
        have h4 : (48 : UInt8).toNat = 48 := rfl
        omega
      · exact ⟨c, t ++ [UInt8.ofNat (48 + u % 10)], by rw [h1]; rfl, h2⟩
theorem dec_len (u : Nat) (hu : u ≤ 9223372036854775808) : (Lib.decDigits u).length ≤ 19 := by
  rw [Lib.decDigits_length]
  refine Decidable.byContradiction fun h => ?_
  have h1 : ∀ k u : Nat, k < Lib.nDigits u → 10 ^ k ≤ u ∨ k = 0 := by
    intro k
    induction k with
    | zero => exact fun u _ => .inr rfl
    | succ k ih =>
      intro u h
      by_cases h2 : u < 10
      · rw [Lib.nDigits_small h2] at h; omega
      · rw [Lib.nDigits_big h2] at h
        refine .inl ?_
        rw [Nat.pow_succ]
        rcases ih (u / 10) (by omega) with h3 | h3
        · omega
        · subst h3; omega
  rcases h1 19 u (by omega) with h2 | h2
  · have : (10 : Nat) ^ 19 = 10000000000000000000 := by decide
    omega
  · omega
theorem digitsU_of {l : Bs} (h0 : l ≠ []) (h : ∀ c ∈ l, isDig c) : digitsU l = true := by
  unfold digitsU
  rw [Bool.and_eq_true]
  refine ⟨by cases l; exact absurd rfl h0; rfl, List.all_eq_true.2 fun c hc => ?_⟩
  obtain ⟨h1, h2⟩ := h c hc
  rw [Bool.and_eq_true]
  exact ⟨decide_eq_true h1, decide_eq_true h2⟩
theorem isDig_ne {c : UInt8} (h : isDig c) : c ≠ 43 ∧ c ≠ 45 := by
  refine ⟨?_, ?_⟩ <;> rintro rfl <;> exact absurd h (by decide)
theorem bare_plain {c : UInt8} {t : Bs} (h : isDig c) : bareL (c :: t) = c :: t := by
  show (if c = 43 ∨ c = 45 then t else c :: t) = c :: t
  rw [if_neg (fun e => e.elim (isDig_ne h).1 (isDig_ne h).2)]
theorem num_of (u : Nat) (hu : u ≤ 9223372036854775808) : ¬ (19 < (Lib.decDigits u).length ∨ (1 < (Lib.decDigits u).length ∧ (Lib.decDigits u).head? = some 48)) := by
  have hl := dec_len u hu
  rintro (h | ⟨h1, h2⟩)
  · omega
  · rcases dec_head u with h3 | ⟨c, t, h3, h4⟩
    · rw [Lib.decDigits_length, Lib.nDigits_small h3] at h1
      omega
    · rw [h3] at h2
      injection h2 with h2
      exact h4 h2
theorem numL_itoa (n : Int) (h0 : -9223372036854775808 ≤ n) (h1 : n ≤ 9223372036854775807) : numL (Lib.itoa n) = some (some n) := by
  unfold Lib.itoa numL
  by_cases hn : n < 0
  · rw [if_pos hn]
    have hb : bareL (45 :: Lib.decDigits n.natAbs) = Lib.decDigits n.natAbs := rfl
    rw [hb, if_pos (digitsU_of (dec_pos _) (dec_digits _)), Lib.parseIntB_minus, dec_uint _ (by omega)]
    have e : ¬ (2 ^ (64 - 1) < n.natAbs) := by
      have : (2 : Nat) ^ (64 - 1) = 9223372036854775808 := by decide
      omega
    have hs : Lib.signedC (2 ^ (64 - 1)) (.ok n.natAbs) = .ok (-(n.natAbs : Int)) := by
      show (if 2 ^ (64 - 1) < n.natAbs then Lib.NumEnd.range else .ok (-(n.natAbs : Int))) = _
      rw [if_neg e]
    rw [hs]
    dsimp only
    rw [if_neg (num_of _ (by omega))]
    congr 2
    omega
  · rw [if_neg hn]
    rcases hd : Lib.decDigits n.toNat with _ | ⟨c, t⟩
    · exact absurd hd (dec_pos _)
    have hc : isDig c := dec_digits n.toNat c (by rw [hd]; exact List.mem_cons_self)
    rw [bare_plain hc, ← hd, if_pos (digitsU_of (dec_pos _) (dec_digits _)), hd, Lib.parseIntB_plain 64 c t (by unfold isDig at hc; omega) (by unfold isDig at hc; omega), ← hd, dec_uint _ (by omega)]
    have e : ¬ (2 ^ (64 - 1) ≤ n.toNat) := by
      have : (2 : Nat) ^ (64 - 1) = 9223372036854775808 := by decide
      omega
    have hs : Lib.signlessC (2 ^ (64 - 1)) (.ok n.toNat) = .ok (n.toNat : Int) := by
      show (if 2 ^ (64 - 1) ≤ n.toNat then Lib.NumEnd.range else .ok (n.toNat : Int)) = _
      rw [if_neg e]
    rw [hs]
    dsimp only
    rw [if_neg (num_of _ (by omega))]
    congr 2
    omega
/-- Where a word ends. -/
def EndsAt : Bs → Prop
  | [] => True
  | c :: _ => endsU c = true
theorem word_of {w r : Bs} (hw : ∀ c ∈ w, endsU c = false) (hr : EndsAt r) : wordL (w ++ r) = w ∧ restL (w ++ r) = r := by
  induction w with
  | nil =>
    cases r with
    | nil => exact ⟨rfl, rfl⟩
    | cons c r =>
      have hc : endsU c = true := hr
      unfold wordL restL
      rw [List.nil_append, List.takeWhile_cons, List.dropWhile_cons, hc]
      exact ⟨rfl, rfl⟩
  | cons c w ih =>
    have hc := hw c List.mem_cons_self
    obtain ⟨h1, h2⟩ := ih fun x hx => hw x (List.mem_cons_of_mem _ hx)
    unfold wordL at h1
    unfold restL at h2
    unfold wordL restL
    rw [List.cons_append, List.takeWhile_cons, List.dropWhile_cons, hc]
    exact ⟨by simp only [Bool.not_false, if_true]; rw [h1], by simp only [Bool.not_false, if_true]; exact h2⟩
theorem dig_fin : ∀ i : Fin 10, endsU (UInt8.ofNat (48 + i.val)) = false := by decide
theorem isDig_ends {c : UInt8} (h : isDig c) : endsU c = false := by
  have h1 := dig_fin ⟨c.toNat - 48, by unfold isDig at h; omega⟩
  have h2 : UInt8.ofNat (48 + (c.toNat - 48)) = c := by
    rw [show 48 + (c.toNat - 48) = c.toNat by unfold isDig at h; omega]
    exact UInt8.ofNat_toNat
  rw [← h2]
  exact h1
theorem itoa_ends (n : Int) : ∀ c ∈ Lib.itoa n, endsU c = false := by
  intro c hc
  unfold Lib.itoa at hc
  split at hc
  · rcases List.mem_cons.1 hc with rfl | hc
    · rfl
    · exact isDig_ends (dec_digits _ c hc)
  · exact isDig_ends (dec_digits _ c hc)
theorem itoa_head (n : Int) : ∃ c t, Lib.itoa n = c :: t ∧ (isDig c ∨ c = 45) := by
  unfold Lib.itoa
  split
  · exact ⟨_, _, rfl, .inr rfl⟩
  · rcases hd : Lib.decDigits n.toNat with _ | ⟨c, t⟩
    · exact absurd hd (dec_pos _)
    · exact ⟨c, t, rfl, .inl (dec_digits n.toNat c (by rw [hd]; exact List.mem_cons_self))⟩
theorem wordV_itoa (n : Int) (h0 : -9223372036854775808 ≤ n) (h1 : n ≤ 9223372036854775807) (k : Nat) : wordV (Lib.itoa n) k = .ok (.mk 2 n ⟨#[]⟩ []) := by
  obtain ⟨c, t, h2, h3⟩ := itoa_head n
  have hne : ∀ x : UInt8, ∀ y : Bs, (x = 110 ∨ x = 116 ∨ x = 102) → Lib.itoa n ≠ x :: y := by
    intro x y hx e
    rw [h2] at e
    injection e with e1 e2
    subst e1
    rcases h3 with h3 | h3
    · unfold isDig at h3
      rcases hx with rfl | rfl | rfl <;> revert h3 <;> decide
    · subst h3
      revert hx; decide
  unfold wordV
  rw [if_neg (hne _ _ (.inl rfl)), if_neg (hne _ _ (.inr (.inl rfl))), if_neg (hne _ _ (.inr (.inr rfl))), if_neg (by rw [h2]; simp), numL_itoa n h0 h1]
/-- A low byte's escape. -/
theorem hex_fin : ∀ i : Fin 128, hexD (hexY (UInt8.ofNat i.val / 16)) = some (i.val / 16) ∧ hexD (hexY (UInt8.ofNat i.val % 16)) = some (i.val % 16) := by decide +kernel
theorem esc_byte (c : UInt8) (n : Nat) (t : Bs) : ∀ q, textF n t = .ok q → textF (n + 1) (escY c ++ t) = .ok (c :: q.1, q.2) := by
  intro q hq
  unfold escY
  split
  · rename_i h
    rw [show [92, c] ++ t = 92 :: c :: t from rfl, textF, if_neg (by decide), if_pos rfl, escL, if_pos h, R.next_ok, hq]
    rfl
  split
  · rename_i h
    subst h
    rw [show ([92, 110] : Bs) ++ t = 92 :: 110 :: t from rfl, textF, if_neg (by decide), if_pos rfl, escL, if_neg (by decide), if_pos rfl, R.next_ok, hq]
    rfl
  split
  · rename_i h
    subst h
    rw [show ([92, 116] : Bs) ++ t = 92 :: 116 :: t from rfl, textF, if_neg (by decide), if_pos rfl, escL, if_neg (by decide), if_neg (by decide), if_pos rfl, R.next_ok, hq]
    rfl
  split
  · rename_i h
    subst h
    rw [show ([92, 114] : Bs) ++ t = 92 :: 114 :: t from rfl, textF, if_neg (by decide), if_pos rfl, escL, if_neg (by decide), if_neg (by decide), if_neg (by decide), if_pos rfl, R.next_ok, hq]
    rfl
  split
  · rename_i h
    have hlt : c.toNat < 128 := by
      rcases h with h | h
      · have : c.toNat < 32 := h
        omega
      · subst h; decide
    have hc : UInt8.ofNat c.toNat = c := UInt8.ofNat_toNat
    obtain ⟨h1, h2⟩ := hex_fin ⟨c.toNat, hlt⟩
    have h3 := (low_facts ⟨c.toNat, hlt⟩).1
    simp only [hc] at h1 h2 h3
    rw [show [92, 117, 48, 48, hexY (c / 16), hexY (c % 16)] ++ t = 92 :: 117 :: 48 :: 48 :: hexY (c / 16) :: hexY (c % 16) :: t from rfl, textF, if_neg (by decide), if_pos rfl, escL, if_neg (by decide), if_neg (by decide), if_neg (by decide), if_neg (by decide), if_pos rfl]
    have hz : hexD 48 = some 0 := by decide
    rw [fourL, hz]
    dsimp only
    rw [fourL, hz]
    dsimp only
    rw [fourL, h1]
    dsimp only
    rw [fourL, h2]
    dsimp only
    rw [fourL, R.next_ok]
    have hv : 16 * (16 * (16 * (16 * 0 + 0) + 0) + c.toNat / 16) + c.toNat % 16 = c.toNat := by omega
    rw [hv, if_neg (by omega), R.next_ok]
    dsimp only
    rw [hq, R.next_ok, h3]
    rfl
  · rename_i h1 h2 h3 h4 h5
    rw [show [c] ++ t = c :: t from rfl, textF, if_neg (fun e => h1 (.inl e)), if_neg (fun e => h1 (.inr e)), hq]
    rfl
theorem text_back : ∀ (b r : Bs), ∃ n, textF n (escB b ++ 34 :: r) = .ok (b, r)
  | [], r => ⟨1, by show textF 1 (34 :: r) = _; rw [textF, if_pos rfl]⟩
  | c :: b, r => by
    obtain ⟨n, h⟩ := text_back b r
    refine ⟨n + 1, ?_⟩
    have : escB (c :: b) ++ 34 :: r = escY c ++ (escB b ++ 34 :: r) := by unfold escB; rw [List.flatMap_cons, List.append_assoc]
    rw [this]
    exact esc_byte c n _ _ h
theorem textF_ext : ∀ n l, Ext (textF n l) (textF (n + 1) l)
  | 0, l => fun h => absurd (by rw [textF]) h
  | n + 1, [] => by rw [textF, textF]; exact Ext.rfl _
  | n + 1, c :: t => by
    rw [textF, textF.eq_3 (n + 1) c t]
    exact Ext.ite (Ext.rfl _) (Ext.ite ((Ext.rfl _).next fun p => (textF_ext n _).next fun q => Ext.rfl _) ((textF_ext n _).next fun q => Ext.rfl _))
theorem textF_more (n k : Nat) (l : Bs) : Ext (textF n l) (textF (n + k) l) := by
  induction k with
  | zero => exact Ext.rfl _
  | succ k ih => exact ih.trans (textF_ext (n + k) l)
theorem textF_same {n N : Nat} {l : Bs} (h : textF n l ≠ .out) (k : textF N l ≠ .out) : textF n l = textF N l := by
  rcases Nat.le_total n N with e | e
  · obtain ⟨j, rfl⟩ := Nat.exists_eq_add_of_le e
    exact (textF_more n j l h).symm
  · obtain ⟨j, rfl⟩ := Nat.exists_eq_add_of_le e
    exact textF_more N j l k
theorem text_read (b r : Bs) : textF ((escB b ++ 34 :: r).length + 1) (escB b ++ 34 :: r) = .ok (b, r) := by
  obtain ⟨n, h⟩ := text_back b r
  rw [← textF_same (n := n) (by rw [h]; exact ok_in _) (textF_in _ _ (Nat.lt_succ_self _)), h]
end Go.Proofs.YtoiipdknamgcmaaGreatDoor

/- What is printed is read as it was: in plain Lean. -/
set_option linter.unusedVariables false
set_option linter.unusedSimpArgs false
namespace Go.Proofs.YtoiipdknamgcmaaGreatDoor
open Go.RowKit Go.Shelf

mutual
/-- All its numbers are numbers of 64 bits. -/
def numAll : V → Prop
  | .mk k n t l => (-9223372036854775808 ≤ n ∧ n ≤ 9223372036854775807) ∧ numAlls l
def numAlls : List V → Prop
  | [] => True
  | x :: l => numAll x ∧ numAlls l
end
theorem numAlls_iff (l : List V) : numAlls l ↔ ∀ x ∈ l, numAll x := by
  induction l with
  | nil => simp [numAlls]
  | cons x l ih => rw [numAlls, ih]; simp
/-- Rising, so the sorted list is the list. -/
def AscV : List V → Prop
  | [] => True
  | [_] => True
  | x :: y :: t => cmpV x y ≤ 0 ∧ AscV (y :: t)
theorem sortV_asc : ∀ l, AscV l → sortV l = l
  | [], _ => rfl
  | [x], _ => rfl
  | x :: y :: t, h => by
    rw [sortV, sortV_asc (y :: t) h.2, insV, if_pos h.1]
theorem ascV_of : ∀ l : List V, (∀ j, 1 ≤ j → j < l.length → cmpV (itemAt l (j - 1)) (itemAt l j) ≤ 0) → AscV l
  | [], _ => trivial
  | [_], _ => trivial
  | x :: y :: t, h => ⟨h 1 (Nat.le_refl _) (by simp), ascV_of (y :: t) fun j h1 h2 => by
      have := h (j + 1) (by omega) (by simpa using h2)
      obtain ⟨i, rfl⟩ : ∃ i, j = i + 1 := ⟨j - 1, by omega⟩
      exact this⟩
def AscP : List (V × V) → Prop
  | [] => True
  | [_] => True
  | x :: y :: t => cmpV x.1 y.1 ≤ 0 ∧ AscP (y :: t)
theorem sortP_asc : ∀ l, AscP l → sortP l = l
  | [], _ => rfl
  | [x], _ => rfl
  | x :: y :: t, h => by
    rw [sortP, sortP_asc (y :: t) h.2, insP, if_pos h.1]
theorem flat_pairs : ∀ l : List V, l.length % 2 = 0 → flatP (pairsV l) = l
  | [], _ => rfl
  | [_], h => by simp at h
  | a :: b :: l, h => by
    show a :: b :: flatP (pairsV l) = _
    rw [flat_pairs l (by simp at h; omega)]
theorem asc_step2 : ∀ (n i : Nat) (l : List V), l.length ≤ i + 2 * n → ascFrom 1 l i = true → ∀ j, i ≤ j → (j - i) % 2 = 0 → j < l.length → cmpV (itemAt l (j - 2)) (itemAt l j) < 0
  | 0, i, l, hn, h, j, hi, hm, hj => by omega
  | n + 1, i, l, hn, h, j, hi, hm, hj => by
    have hil : i < l.length := by omega
    by_cases hc : 0 ≤ cmpV (itemAt l (i - (1 + 1))) (itemAt l i)
    · rw [ascFrom_bad hil hc] at h; cases h
    · have hc2 : cmpV (itemAt l (i - (1 + 1))) (itemAt l i) < 0 := by omega
      by_cases e : i = j
      · subst e; exact hc2
      · rw [ascFrom_good hil hc2] at h
        exact asc_step2 n (i + 2) l (by omega) h j (by omega) (by omega) hj
theorem ascP_of : ∀ l : List V, l.length % 2 = 0 → (∀ j, 2 ≤ j → j % 2 = 0 → j < l.length → cmpV (itemAt l (j - 2)) (itemAt l j) ≤ 0) → AscP (pairsV l)
  | [], _, _ => trivial
  | [_], h, _ => by simp at h
  | [_, _], _, _ => trivial
  | [_, _, _], h, _ => by simp at h
  | a :: b :: c :: e :: l, hl, h => ⟨h 2 (Nat.le_refl _) rfl (by simp), ascP_of (c :: e :: l) (by simp at hl ⊢; omega) fun j h1 h2 h3 => by
      have := h (j + 2) (by omega) (by omega) (by simpa using h3)
      obtain ⟨i, rfl⟩ : ∃ i, j = i + 2 := ⟨j - 2, by omega⟩
      exact this⟩
theorem sizes_mem {l : List V} {x : V} (h : x ∈ l) : V.size x ≤ V.sizes l := by
  induction l with
  | nil => cases h
  | cons y l ih =>
    rw [V.sizes]
    rcases List.mem_cons.1 h with rfl | h
    · omega
    · have := ih h; omega
theorem right_of {x : V} (h1 : okAll x = true) (h2 : depthV x ≤ 16) (h3 : V.size x ≤ 1024) : rightB x = true := by
  unfold rightB
  rw [decide_eq_true_iff]
  exact ⟨h1, by omega, by omega⟩
theorem listOk_of {l : List V} (h1 : okAlls l = true) (h2 : ∀ x ∈ l, depthV x ≤ 16) (h3 : V.sizes l ≤ 1024) : listOk l = true := by
  unfold listOk
  have := length_sizes l
  rw [Bool.and_eq_true]
  refine ⟨decide_eq_true (by omega), List.all_eq_true.2 fun x hx => right_of (okAlls_mem h1 x hx) (h2 x hx) ?_⟩
  have := sizes_mem hx
  omega
theorem ends_ne {c : UInt8} (h : endsU c = false) : c ≠ 34 ∧ c ≠ 40 ∧ c ≠ 41 ∧ c ≠ 91 ∧ c ≠ 93 ∧ c ≠ 123 ∧ c ≠ 125 ∧ c ≠ 59 ∧ blankU c = false := by
  refine ⟨?_, ?_, ?_, ?_, ?_, ?_, ?_, ?_, ?_⟩
  any_goals (rintro rfl; revert h; decide)
  unfold endsU at h
  exact (Bool.or_eq_false_iff.1 h).1
theorem form_word {w r t : Bs} {c : UInt8} {v : V} {d f : Nat} (hw : ∀ c ∈ w, endsU c = false) (hc : w = c :: t) (h35 : c ≠ 35) (hd : d ≤ 16) (hf : f + 1 ≤ 1024) (hr : EndsAt r) (hv : ∀ k, wordV w k = .ok v) (n : Nat) : formF true (n + 1) d f (w ++ r) = .ok (v, f + 1, r) := by
  obtain ⟨h1, h2⟩ := word_of hw hr
  subst hc
  obtain ⟨e1, e2, e3, e4, e5, e6, e7, e8, e9⟩ := ends_ne (hw c List.mem_cons_self)
  rw [List.cons_append] at h1 h2 ⊢
  rw [formF, if_neg (by rintro (h | h | h); exact e3 h; exact e5 h; exact e7 h), if_neg (by omega), if_neg (by omega), if_neg e1, if_neg e2, if_neg e4, if_neg e6, if_neg h35, h1, h2, hv, R.next_ok]
theorem form_text (b r : Bs) (d f n : Nat) (hd : d ≤ 16) (hf : f + 1 ≤ 1024) (hb : b.length ≤ 256) : formF true (n + 1) d f (34 :: (escB b ++ 34 :: r)) = .ok (V.str ⟨b.toArray⟩, f + 1, r) := by
  rw [formF, if_neg (by decide), if_neg (by omega), if_neg (by omega), if_pos rfl, text_read, R.next_ok, if_neg (by dsimp only; omega)]
theorem form_list (t r : Bs) (l : List V) (d f g n : Nat) (hd : d ≤ 16) (hf : f + 1 ≤ 1024) (h : itemsF true n 93 (d + 1) (f + 1) t = .ok (l, g, 93 :: r)) : formF true (n + 1) d f (91 :: t) = .ok (V.lst l, g, r) := by
  rw [formF, if_neg (by decide), if_neg (by omega), if_neg (by omega), if_neg (by decide), if_neg (by decide), if_pos rfl, h, R.next_ok]
  rfl
theorem form_map (t r : Bs) (l : List V) (d f g n : Nat) (hd : d ≤ 16) (hf : f + 1 ≤ 1024) (h : itemsF true n 125 (d + 1) (f + 1) t = .ok (l, g, 125 :: r)) (hl : l.length % 2 = 0) (hm : ∀ k, mapR true l k = .ok (V.map l)) : formF true (n + 1) d f (123 :: t) = .ok (V.map l, g, r) := by
  rw [formF, if_neg (by decide), if_neg (by omega), if_neg (by omega), if_neg (by decide), if_neg (by decide), if_neg (by decide), if_pos rfl, h, R.next_ok, if_neg (by dsimp only; omega), hm, R.next_ok]
  rfl
theorem form_set (t r : Bs) (l : List V) (d f g n : Nat) (hd : d ≤ 16) (hf : f + 1 ≤ 1024) (h : itemsF true n 125 (d + 1) (f + 1) t = .ok (l, g, 125 :: r)) (hm : ∀ k, setR l k = .ok (V.set l)) : formF true (n + 1) d f (35 :: 123 :: t) = .ok (V.set l, g, r) := by
  rw [formF, if_neg (by decide), if_neg (by omega), if_neg (by omega), if_neg (by decide), if_neg (by decide), if_neg (by decide), if_neg (by decide), if_pos rfl, if_pos (show (123 :: t).head? = some 123 from rfl), List.tail_cons, h, R.next_ok, hm, R.next_ok]
  rfl
/-- How a printed form begins. -/
def Starts (l : Bs) : Prop := ∃ c t, l = c :: t ∧ blankU c = false ∧ c ≠ 59 ∧ c ≠ 93 ∧ c ≠ 125 ∧ (c = 35 → t.head? = some 123)
theorem prB_starts {x : V} (hk : 0 ≤ x.kind ∧ x.kind ≤ 6) : Starts (prB x) := by
  obtain ⟨k, n, t, l⟩ := x
  have hk' : 0 ≤ k ∧ k ≤ 6 := hk
  have : k = 0 ∨ k = 1 ∨ k = 2 ∨ k = 3 ∨ k = 4 ∨ k = 5 ∨ k = 6 := by omega
  unfold prB
  rcases this with rfl | rfl | rfl | rfl | rfl | rfl | rfl
  · exact ⟨110, _, rfl, rfl, by decide, by decide, by decide, by decide⟩
  · rw [if_neg (by decide), if_pos rfl]
    split
    · exact ⟨116, _, rfl, rfl, by decide, by decide, by decide, by decide⟩
    · exact ⟨102, _, rfl, rfl, by decide, by decide, by decide, by decide⟩
  · rw [if_neg (by decide), if_neg (by decide), if_pos rfl]
    obtain ⟨c, t, h1, h2⟩ := itoa_head n
    have h3 : endsU c = false := itoa_ends n c (by rw [h1]; exact List.mem_cons_self)
    obtain ⟨e1, e2, e3, e4, e5, e6, e7, e8, e9⟩ := ends_ne h3
    refine ⟨c, t, h1, e9, e8, e5, e7, fun h => ?_⟩
    subst h
    rcases h2 with h2 | h2
    · exact absurd h2 (by decide)
    · exact absurd h2 (by decide)
  · exact ⟨34, _, rfl, rfl, by decide, by decide, by decide, fun h => absurd h (by decide)⟩
  · exact ⟨91, _, rfl, rfl, by decide, by decide, by decide, fun h => absurd h (by decide)⟩
  · exact ⟨35, _, rfl, rfl, by decide, by decide, by decide, fun _ => rfl⟩
  · exact ⟨123, _, rfl, rfl, by decide, by decide, by decide, fun h => absurd h (by decide)⟩
theorem prefix_two {c : UInt8} {L : Bs} (h : Lib.hasPrefix (c :: L) [35, 95] = true) : c = 35 ∧ L.head? = some 95 := by
  rcases L with _ | ⟨e, L⟩
  · simp [Lib.hasPrefix] at h
  · simp [Lib.hasPrefix] at h
    exact ⟨h.1.symm, by rw [List.head?_cons, ← h.2]⟩
theorem skip_none {l : Bs} (h : Starts l) (r : Bs) (d f n : Nat) : skipF true (n + 1) d f (l ++ r) = .ok (f, l ++ r) := by
  obtain ⟨c, t, rfl, h1, h2, h3, h4, h5⟩ := h
  have hs : spaceL false (c :: t ++ r) = c :: t ++ r := by
    rw [List.cons_append, spaceL, if_neg (by rw [h1]; decide), if_neg h2]
  rw [skipF, hs, if_neg]
  intro hp
  rw [List.cons_append] at hp
  obtain ⟨hc, hh⟩ := prefix_two hp
  have ht := h5 hc
  rcases t with _ | ⟨e, t⟩
  · cases ht
  · injection ht with ht
    subst ht
    injection hh with hh
    exact absurd hh (by decide)
theorem skip_blank {l : Bs} (h : Starts l) (r : Bs) (d f n : Nat) : skipF true (n + 1) d f (32 :: (l ++ r)) = .ok (f, l ++ r) := by
  have h1 := skip_none h r d f n
  rw [skipF] at h1 ⊢
  have e : spaceL false (32 :: (l ++ r)) = spaceL false (l ++ r) := by rw [spaceL, if_pos (by decide)]
  rw [e]
  exact h1
theorem starts_head {l : Bs} (h : Starts l) (r : Bs) {e : UInt8} (he : e = 93 ∨ e = 125) : ¬ (l ++ r).head? = some e := by
  obtain ⟨c, t, rfl, h1, h2, h3, h4, h5⟩ := h
  rw [List.cons_append, List.head?_cons]
  intro hc
  injection hc with hc
  rcases he with rfl | rfl
  · exact h3 hc
  · exact h4 hc
end Go.Proofs.YtoiipdknamgcmaaGreatDoor

/- A right value's printed form is read as the value: in plain Lean. -/
set_option linter.unusedVariables false
set_option linter.unusedSimpArgs false
namespace Go.Proofs.YtoiipdknamgcmaaGreatDoor
open Go.RowKit Go.Shelf

theorem prLB_rest (l : List V) (e : UInt8) (he : e = 93 ∨ e = 125) (r : Bs) : EndsAt (prLB l false ++ e :: r) := by
  cases l with
  | nil =>
    show EndsAt (e :: r)
    rcases he with rfl | rfl
    · exact (by decide : endsU 93 = true)
    · exact (by decide : endsU 125 = true)
  | cons x l =>
    unfold prLB
    exact (by decide : endsU 32 = true)
theorem kinds {k : Int} (h : 0 ≤ k ∧ k ≤ 6) : k = 0 ∨ k = 1 ∨ k = 2 ∨ k = 3 ∨ k = 4 ∨ k = 5 ∨ k = 6 := by omega
mutual
theorem read_back : ∀ (x : V), okAll x = true → numAll x → ∀ (d f : Nat) (r : Bs), d + depthV x ≤ 16 → f + V.size x ≤ 1024 → EndsAt r → ∃ n, formF true n d f (prB x ++ r) = .ok (x, f + V.size x, r)
  | .mk k n t l, hok, hnum, d, f, r, hd, hf, hr => by
    have hkind := (okAll_kind hok)
    have hk : 0 ≤ k ∧ k ≤ 6 := ⟨hkind.1, hkind.2.1⟩
    have hok0 := hok
    rw [okAll, Bool.and_eq_true] at hok
    obtain ⟨h1, h2⟩ := hok
    have h1 : okB (.mk k n t l) = true := h1
    rw [numAll] at hnum
    have hsz : V.size (.mk k n t l) = 1 + V.sizes l := rfl
    have hdp : depthV (.mk k n t l) = depthL l := by rw [depthV]
    rw [hdp] at hd
    rw [hsz] at hf ⊢
    unfold prB
    have hdl : ∀ x ∈ l, d + 1 + depthV x ≤ 16 := fun x hx => by
      have := (depthL_le (l := l) (d := depthL l)).1 (Nat.le_refl _) x hx
      omega
    have hdl2 : ∀ x ∈ l, depthV x ≤ 16 := fun x hx => by have := hdl x hx; omega
    have hri : rightB (.mk k n t l) = true := right_of hok0 (by rw [hdp]; omega) (by rw [hsz]; omega)
    have hlo : listOk l = true := listOk_of h2 hdl2 (by omega)
    have nil_of : l.length = 0 → l = [] := List.length_eq_zero_iff.1
    have tnil : t.size = 0 → t = ⟨#[]⟩ := fun h => bytes_none h rfl
    rcases kinds hk with rfl | rfl | rfl | rfl | rfl | rfl | rfl
    · obtain ⟨a, b, c⟩ := (ok_0 n t l).1 h1
      have hl := nil_of c
      subst hl
      have ht := tnil b
      subst ht
      subst a
      rw [if_pos rfl]
      exact ⟨1, form_word (t := [105, 108]) (c := 110) (by decide) rfl (by decide) (by omega) (by omega) hr (fun k => by unfold wordV; rw [if_pos rfl]; rfl) 0⟩
    · obtain ⟨a, b, c⟩ := (ok_1 n t l).1 h1
      have hl := nil_of c
      subst hl
      have ht := tnil b
      subst ht
      rw [if_neg (by decide), if_pos rfl]
      rcases a with rfl | rfl
      · rw [if_neg (by decide)]
        exact ⟨1, form_word (t := [97, 108, 115, 101]) (c := 102) (by decide) rfl (by decide) (by omega) (by omega) hr (fun k => by unfold wordV; rw [if_neg (by decide), if_neg (by decide), if_pos rfl]) 0⟩
      · rw [if_pos rfl]
        exact ⟨1, form_word (t := [114, 117, 101]) (c := 116) (by decide) rfl (by decide) (by omega) (by omega) hr (fun k => by unfold wordV; rw [if_neg (by decide), if_pos rfl]) 0⟩
    · obtain ⟨b, c⟩ := (ok_2 n t l).1 h1
      have hl := nil_of c
      subst hl
      have ht := tnil b
      subst ht
      rw [if_neg (by decide), if_neg (by decide), if_pos rfl]
      obtain ⟨c, u, h3, h4⟩ := itoa_head n
      refine ⟨1, form_word (t := u) (c := c) (itoa_ends n) h3 (fun h => ?_) (by omega) (by omega) hr (fun k => wordV_itoa n hnum.1.1 hnum.1.2 k) 0⟩
      subst h
      rcases h4 with h4 | h4
      · exact absurd h4 (by decide)
      · exact absurd h4 (by decide)
    · obtain ⟨a, b, _, c⟩ := (ok_3 n t l).1 h1
      have hl := nil_of c
      subst hl
      subst a
      rw [if_neg (by decide), if_neg (by decide), if_neg (by decide), if_pos rfl]
      refine ⟨1, ?_⟩
      have := form_text t.data.toList r d f 0 (by omega) (by omega) (by rw [Array.length_toList]; exact b)
      simp only [List.append_assoc, List.singleton_append, List.cons_append, List.nil_append] at this ⊢
      exact this
    · obtain ⟨a, b⟩ := (ok_4 n t l).1 h1
      have ht := tnil b
      subst ht
      subst a
      rw [if_neg (by decide), if_neg (by decide), if_neg (by decide), if_neg (by decide), if_pos rfl]
      obtain ⟨m, hm⟩ := read_backL l h2 hnum.2 true 93 (d + 1) (f + 1) r (.inl rfl) hdl (by omega)
      refine ⟨m + 1, ?_⟩
      have := form_list (prLB l true ++ 93 :: r) r l d f _ m (by omega) (by omega) hm
      simp only [List.append_assoc, List.singleton_append, List.cons_append, List.nil_append] at this ⊢
      rw [this, Nat.add_assoc]
      rfl
    · obtain ⟨a, b, c⟩ := (ok_5 n t l).1 h1
      have ht := tnil b
      subst ht
      subst a
      rw [if_neg (by decide), if_neg (by decide), if_neg (by decide), if_neg (by decide), if_neg (by decide), if_pos rfl]
      obtain ⟨m, hm⟩ := read_backL l h2 hnum.2 true 125 (d + 1) (f + 1) r (.inr rfl) hdl (by omega)
      refine ⟨m + 1, ?_⟩
      have hs : sortV l = l := sortV_asc l (ascV_of l fun j h3 h4 => by have := asc_apart l.length 1 l (by omega) c j h3 h4; omega)
      have := form_set (prLB l true ++ 125 :: r) r l d f _ m (by omega) (by omega) hm (fun k => by unfold setR; rw [hs, if_pos ⟨hlo, hri⟩])
      simp only [List.append_assoc, List.singleton_append, List.cons_append, List.nil_append] at this ⊢
      rw [this, Nat.add_assoc]
      rfl
    · obtain ⟨a, b, e, c⟩ := (ok_6 n t l).1 h1
      have ht := tnil b
      subst ht
      subst a
      rw [if_neg (by decide), if_neg (by decide), if_neg (by decide), if_neg (by decide), if_neg (by decide), if_neg (by decide)]
      obtain ⟨m, hm⟩ := read_backL l h2 hnum.2 true 125 (d + 1) (f + 1) r (.inr rfl) hdl (by omega)
      refine ⟨m + 1, ?_⟩
      have hs : sortP (pairsV l) = pairsV l := sortP_asc _ (ascP_of l e fun j h3 h4 h5 => by have := asc_step2 l.length 2 l (by omega) c j h3 (by omega) h5; omega)
      have := form_map (prLB l true ++ 125 :: r) r l d f _ m (by omega) (by omega) hm e (fun k => by unfold mapR; rw [if_neg (by decide), hs, flat_pairs l e, if_pos ⟨hlo, hri⟩])
      simp only [List.append_assoc, List.singleton_append, List.cons_append, List.nil_append] at this ⊢
      rw [this, Nat.add_assoc]
      rfl
theorem read_backL : ∀ (l : List V), okAlls l = true → numAlls l → ∀ (first : Bool) (e : UInt8) (d f : Nat) (r : Bs), (e = 93 ∨ e = 125) → (∀ x ∈ l, d + depthV x ≤ 16) → f + V.sizes l ≤ 1024 → ∃ n, itemsF true n e d f (prLB l first ++ e :: r) = .ok (l, f + V.sizes l, e :: r)
  | [], _, _, first, e, d, f, r, he, _, _ => by
    refine ⟨2, ?_⟩
    have hs : spaceL false (e :: r) = e :: r := by
      rw [spaceL]
      rcases he with rfl | rfl
      · rw [if_neg (by decide), if_neg (by decide)]
      · rw [if_neg (by decide), if_neg (by decide)]
    have hp : Lib.hasPrefix (e :: r) [35, 95] ≠ true := fun h => by
      have := (prefix_two h).1
      rcases he with rfl | rfl
      · exact absurd this (by decide)
      · exact absurd this (by decide)
    show itemsF true 2 e d f (prLB [] first ++ e :: r) = _
    unfold prLB
    rw [List.nil_append, itemsF, skipF, hs, if_neg hp, R.next_ok, if_pos (by rw [List.head?_cons])]
    rfl
  | x :: l, hok, hnum, first, e, d, f, r, he, hd, hf => by
    rw [okAlls, Bool.and_eq_true] at hok
    rw [numAlls] at hnum
    rw [V.sizes] at hf ⊢
    have hst : Starts (prB x) := prB_starts ⟨(okAll_kind hok.1).1, (okAll_kind hok.1).2.1⟩
    obtain ⟨n1, h1⟩ := read_back x hok.1 hnum.1 d f (prLB l false ++ e :: r) (hd x List.mem_cons_self) (by omega) (prLB_rest l e he r)
    obtain ⟨n2, h2⟩ := read_backL l hok.2 hnum.2 false e d (f + V.size x) r he (fun y hy => hd y (List.mem_cons_of_mem _ hy)) (by omega)
    refine ⟨n1 + n2 + 1 + 1, ?_⟩
    unfold prLB
    have h1' := formF_up h1 (show n1 ≤ n1 + n2 + 1 by omega)
    have h2' := itemsF_up h2 (show n2 ≤ n1 + n2 + 1 by omega)
    have hsk : skipF true (n1 + n2 + 1) d f ((if first = true then [] else [32]) ++ prB x ++ prLB l false ++ e :: r) = .ok (f, prB x ++ (prLB l false ++ e :: r)) := by
      cases first with
      | true =>
        rw [if_pos rfl, List.nil_append, List.append_assoc]
        exact skip_none hst _ _ _ _
      | false =>
        rw [if_neg (by decide), List.append_assoc, List.append_assoc]
        exact skip_blank hst _ _ _ _
    rw [itemsF, hsk, R.next_ok, if_neg (starts_head hst _ he), h1', R.next_ok, h2', R.next_ok, Nat.add_assoc]
end
/-- WHAT IS PRINTED IS READ AS IT WAS. -/
theorem whole_back (x : V) (hr : rightB x = true) (hn : numAll x) (N : Nat) (hN : wholeF true N (prB x) ≠ .out) : wholeF true N (prB x) = .ok x := by
  unfold rightB at hr
  obtain ⟨h1, h2, h3⟩ := of_decide_eq_true hr
  obtain ⟨n, h⟩ := read_back x h1 hn 0 0 [] (by omega) (by omega) trivial
  have hst : Starts (prB x) := prB_starts ⟨(okAll_kind h1).1, (okAll_kind h1).2.1⟩
  have hs := skip_none hst [] 0 0 n
  rw [List.append_nil] at h hs
  have h' := formF_up h (show n ≤ n + 1 by omega)
  have hw : wholeF true (n + 1) (prB x) = .ok x := by
    unfold wholeF
    rw [hs, R.next_ok, h', R.next_ok]
    have he : skipF true (n + 1) 0 (0 + V.size x) [] = .ok (0 + V.size x, []) := by
      rw [skipF, spaceL, if_neg (by simp [Lib.hasPrefix])]
    rw [he, R.next_ok, if_pos rfl]
  rw [← wholeF_same (n := n + 1) (by rw [hw]; exact ok_in _) hN, hw]
end Go.Proofs.YtoiipdknamgcmaaGreatDoor

/- Texts of whole letters, as lists of bytes. -/
set_option linter.unusedVariables false
set_option linter.unusedSimpArgs false
namespace Go.Proofs.YtoiipdknamgcmaaGreatDoor
open Go.RowKit Go.Shelf

def RuneOk (r : Nat) : Prop := r < 55296 ∨ (57343 < r ∧ r ≤ 1114111)
inductive Val : Bs → Prop where
  | nil : Val []
  | cons (r : Nat) (t : Bs) (h : RuneOk r) (k : Val t) : Val (Lib.encodeRune (r : Int) ++ t)
theorem u8_nat {x : Int} (h0 : 0 ≤ x) (h1 : x < 256) : (x.toNat.toUInt8).toNat = x.toNat := by
  show (UInt8.ofNat x.toNat).toNat = _
  rw [UInt8.toNat_ofNat']
  exact Nat.mod_eq_of_lt (by omega)
set_option maxHeartbeats 2000000 in
theorem dec_enc (r : Nat) (h : RuneOk r) (m : Bs) : Lib.decodeL (Lib.encodeRune (r : Int) ++ m) = (r, (Lib.encodeRune (r : Int)).length) := by
  rw [Lib.decodeL_N]
  unfold RuneOk at h
  unfold Lib.encodeRune
  by_cases h1 : r ≤ 127
  · rw [Lib.encodeRuneZ_one (by omega) (by omega)]
    simp only [List.map_cons, List.map_nil, List.cons_append, List.nil_append, List.length_cons, List.length_nil, List.getD_cons_zero]
    unfold Lib.decodeN
    rw [u8_nat (by omega) (by omega), if_pos (by omega)]
    rfl
  by_cases h2 : r ≤ 2047
  · rw [Lib.encodeRuneZ_two (by omega) (by omega)]
    simp only [List.map_cons, List.map_nil, List.cons_append, List.nil_append, List.length_cons, List.length_nil, List.getD_cons_zero, List.getD_cons_succ]
    rw [u8_nat (by omega) (by omega), u8_nat (by omega) (by omega)]
    unfold Lib.decodeN
    rw [if_neg (by omega), if_pos (by omega), if_pos (by omega)]
    apply Prod.ext <;> simp only <;> omega
  by_cases h3 : r ≤ 65535
  · rw [Lib.encodeRuneZ_three (by omega)]
    simp only [List.map_cons, List.map_nil, List.cons_append, List.nil_append, List.length_cons, List.length_nil, List.getD_cons_zero, List.getD_cons_succ]
    rw [u8_nat (by omega) (by omega), u8_nat (by omega) (by omega), u8_nat (by omega) (by omega)]
    unfold Lib.decodeN
    rw [if_neg (by omega), if_neg (by omega), if_pos (by omega), if_pos (by omega)]
    apply Prod.ext <;> simp only <;> omega
  · rw [Lib.encodeRuneZ_four (by omega) (by omega)]
    simp only [List.map_cons, List.map_nil, List.cons_append, List.nil_append, List.length_cons, List.length_nil, List.getD_cons_zero, List.getD_cons_succ]
    rw [u8_nat (by omega) (by omega), u8_nat (by omega) (by omega), u8_nat (by omega) (by omega), u8_nat (by omega) (by omega)]
    unfold Lib.decodeN
    rw [if_neg (by omega), if_neg (by omega), if_neg (by omega), if_pos (by omega), if_pos (by omega)]
    apply Prod.ext <;> simp only <;> omega
set_option maxHeartbeats 2000000 in
theorem dec_ok (n b0 b1 b2 b3 : Nat) (h : Lib.decodeN n b0 b1 b2 b3 ≠ (65533, 1)) : RuneOk (Lib.decodeN n b0 b1 b2 b3).1 := by
  revert h
  unfold Lib.decodeN RuneOk
  repeat' split
  all_goals first | (intro h; exact absurd rfl h) | (intro _; simp only; omega)
theorem enc_pos (r : Int) : 0 < (Lib.encodeRune r).length := by
  unfold Lib.encodeRune
  rw [List.length_map]
  exact (Lib.encodeRuneZ_length r).1
theorem enc_low {r : Nat} (h : r < 128) : Lib.encodeRune (r : Int) = [UInt8.ofNat r] := (low_facts ⟨r, h⟩).1
theorem enc_one {r : Nat} (h : RuneOk r) (hl : (Lib.encodeRune (r : Int)).length = 1) : r < 128 := by
  unfold RuneOk at h
  refine Decidable.byContradiction fun hn => ?_
  unfold Lib.encodeRune at hl
  rw [List.length_map] at hl
  by_cases h2 : r ≤ 2047
  · rw [Lib.encodeRuneZ_two (by omega) (by omega)] at hl; simp at hl
  by_cases h3 : r ≤ 65535
  · rw [Lib.encodeRuneZ_three (by omega)] at hl; simp at hl
  · rw [Lib.encodeRuneZ_four (by omega) (by omega)] at hl; simp at hl
theorem val_of_utf (s : ByteArray) : ∀ n pos, s.size - pos < n → utfFrom s pos = true → Val (s.data.toList.drop pos)
  | 0, pos, h, _ => by omega
  | n + 1, pos, h, hu => by
    by_cases hp : pos < s.size
    · obtain ⟨h1, h2⟩ := utfFrom_step hp hu
      have hw := Lib.decode_width_pos s pos hp
      have hb : Utf8.decode s pos ≠ (65533, 1) := fun hb => by rw [utfFrom_bad hp hb] at hu; cases hu
      rw [← h1]
      refine Val.cons _ _ ?_ (val_of_utf s n _ (by omega) h2)
      rw [decode_byteAt] at hb ⊢
      exact dec_ok _ _ _ _ _ hb
    · rw [List.drop_eq_nil_of_le (by have hl : s.data.toList.length = s.size := rfl; omega)]
      exact Val.nil
theorem utf_of_val {l : Bs} (h : Val l) : ∀ (s : ByteArray) (pos : Nat), s.data.toList.drop pos = l → utfFrom s pos = true := by
  induction h with
  | nil =>
    intro s pos hl
    refine utfFrom_end ?_
    have h1 := congrArg List.length hl
    rw [List.length_drop, List.length_nil] at h1
    have h2 : s.data.toList.length = s.size := rfl
    omega
  | cons r t h k ih =>
    intro s pos hl
    have h1 := congrArg List.length hl
    rw [List.length_drop, List.length_append] at h1
    have h2 : s.data.toList.length = s.size := rfl
    have h3 := enc_pos (r : Int)
    have hp : pos < s.size := by omega
    have hd : Utf8.decode s pos = (r, (Lib.encodeRune (r : Int)).length) := by rw [← Lib.decodeL_drop, hl, dec_enc r h t]
    have hb : Utf8.decode s pos ≠ (65533, 1) := by
      rw [hd]
      intro e
      injection e with e1 e2
      have := enc_one h e2
      omega
    rw [utfFrom_good hp hb, hd]
    refine ih s _ ?_
    rw [← List.drop_drop, hl, List.drop_left]
theorem val_utf (l : Bs) : Val l ↔ utfFrom ⟨l.toArray⟩ 0 = true := by
  constructor
  · intro h
    exact utf_of_val h _ 0 (by simp)
  · intro h
    have := val_of_utf ⟨l.toArray⟩ _ 0 (Nat.lt_succ_self _) h
    simpa using this
theorem Val.append {a b : Bs} (ha : Val a) (hb : Val b) : Val (a ++ b) := by
  induction ha with
  | nil => exact hb
  | cons r t h k ih => rw [List.append_assoc]; exact Val.cons r _ h ih
theorem u8_of (c : UInt8) : UInt8.ofNat c.toNat = c := UInt8.ofNat_toNat
theorem Val.low {c : UInt8} {t : Bs} (hc : c.toNat < 128) (h : Val t) : Val (c :: t) := by
  have := Val.cons c.toNat t (.inl (by omega)) h
  rw [enc_low hc, u8_of] at this
  exact this
theorem low_list : ∀ {l : Bs}, (∀ c ∈ l, c.toNat < 128) → Val l
  | [], _ => Val.nil
  | c :: t, h => Val.low (h c List.mem_cons_self) (low_list fun x hx => h x (List.mem_cons_of_mem _ hx))
theorem rune_cases {r : Nat} (h : RuneOk r) : (r < 128 ∧ Lib.encodeRune (r : Int) = [UInt8.ofNat r] ∧ (UInt8.ofNat r).toNat = r) ∨ (∀ c ∈ Lib.encodeRune (r : Int), 128 ≤ c.toNat) := by
  by_cases h1 : r < 128
  · exact .inl ⟨h1, enc_low h1, (low_facts ⟨r, h1⟩).2.1⟩
  · exact .inr (rune_high (by omega))
/-- A low byte stands between letters. -/
theorem Val.cut {l : Bs} (h : Val l) : ∀ (p : Bs) (c : UInt8) (t : Bs), l = p ++ c :: t → c.toNat < 128 → Val p ∧ Val t := by
  induction h with
  | nil => intro p c t e; exact absurd e (by simp)
  | cons r u h k ih =>
    intro p c t e hc
    rcases rune_cases h with ⟨h1, h2, h3⟩ | h1
    · rw [h2] at e
      rcases p with _ | ⟨a, p⟩
      · injection e with e1 e2
        subst e2
        exact ⟨Val.nil, k⟩
      · injection e with e1 e2
        obtain ⟨k1, k2⟩ := ih p c t e2 hc
        subst e1
        exact ⟨Val.low (by omega) k1, k2⟩
    · rcases List.append_eq_append_iff.1 e with ⟨a, e1, e2⟩ | ⟨a, e1, e2⟩
      · subst e1
        obtain ⟨k1, k2⟩ := ih a c t e2 hc
        exact ⟨Val.cons r a h k1, k2⟩
      · rcases a with _ | ⟨x, a⟩
        · rw [List.nil_append] at e2
          rw [List.append_nil] at e1
          have k2 := (ih [] c t (by rw [← e2]; rfl) hc).2
          have := Val.cons r [] h Val.nil
          rw [List.append_nil, e1] at this
          exact ⟨this, k2⟩
        · exfalso
          injection e2 with e3 e4
          have := h1 x (by rw [e1]; exact List.mem_append_right _ List.mem_cons_self)
          rw [← e3] at this
          omega
end Go.Proofs.YtoiipdknamgcmaaGreatDoor

/- What is read is right: in plain Lean. -/
set_option linter.unusedVariables false
set_option linter.unusedSimpArgs false
namespace Go.Proofs.YtoiipdknamgcmaaGreatDoor
open Go.RowKit Go.Shelf

theorem Val.tail {c : UInt8} {t : Bs} (h : Val (c :: t)) (hc : c.toNat < 128) : Val t := (h.cut [] c t rfl hc).2
theorem low_drop : ∀ {w t : Bs}, Val (w ++ t) → (∀ c ∈ w, c.toNat < 128) → Val t
  | [], t, h, _ => h
  | c :: w, t, h, hw => low_drop (Val.tail h (hw c List.mem_cons_self)) fun x hx => hw x (List.mem_cons_of_mem _ hx)
theorem blank_low {c : UInt8} (h : blankU c = true) : c.toNat < 128 := by
  unfold blankU at h
  simp only [Bool.or_eq_true, beq_iff_eq] at h
  rcases h with (((h | h) | h) | h) | h <;> subst h <;> decide
/-- Within a remark: up to its end. -/
theorem remark : ∀ l : Bs, spaceL true l = [] ∨ ∃ p t, l = p ++ 10 :: t ∧ spaceL true l = spaceL false t
  | [] => .inl rfl
  | c :: l => by
    rw [spaceL]
    by_cases h : c = 10
    · rw [if_pos h]
      subst h
      exact .inr ⟨[], l, rfl, rfl⟩
    · rw [if_neg h]
      rcases remark l with h1 | ⟨p, t, h1, h2⟩
      · exact .inl h1
      · exact .inr ⟨c :: p, t, by rw [h1]; rfl, h2⟩
theorem space_val : ∀ n (l : Bs), l.length < n → Val l → Val (spaceL false l)
  | 0, l, h, _ => by omega
  | n + 1, [], _, _ => Val.nil
  | n + 1, c :: l, hn, h => by
    rw [List.length_cons] at hn
    rw [spaceL]
    split
    · rename_i hb
      exact space_val n l (by omega) (h.tail (blank_low hb))
    · split
      · rename_i hc
        subst hc
        have hl : Val l := h.tail (by decide)
        rcases remark l with h1 | ⟨p, t, h1, h2⟩
        · rw [h1]; exact Val.nil
        · rw [h2]
          have h3 : t.length < n := by
            have := congrArg List.length h1
            rw [List.length_append, List.length_cons] at this
            omega
          exact space_val n t h3 (hl.cut p 10 t h1 (by decide)).2
      · exact h
theorem hex_low {c : UInt8} {d : Nat} (h : hexD c = some d) : c.toNat < 128 ∧ d < 16 := by
  unfold hexD at h
  split at h
  · injection h with h; omega
  split at h
  · injection h with h; omega
  split at h
  · injection h with h; omega
  · cases h
theorem four_val (k : Nat) : ∀ (n a : Nat) (l : Bs) (p : Nat × Bs), Val l → fourL k n a l = .ok p → Val p.2 ∧ p.1 < (a + 1) * 16 ^ n
  | 0, a, l, p, h, e => by
    simp only [fourL] at e
    injection e with e
    subst e
    exact ⟨h, by simp⟩
  | n + 1, a, [], p, h, e => by simp [fourL] at e
  | n + 1, a, c :: t, p, h, e => by
    rw [fourL] at e
    split at e
    · cases e
    · rename_i d hd
      obtain ⟨h1, h2⟩ := hex_low hd
      obtain ⟨h3, h4⟩ := four_val k n _ t p (h.tail h1) e
      refine ⟨h3, Nat.lt_of_lt_of_le h4 ?_⟩
      rw [Nat.pow_succ, Nat.mul_comm (16 ^ n) 16, ← Nat.mul_assoc]
      exact Nat.mul_le_mul_right _ (by omega)
theorem esc_val (k : Nat) (l : Bs) (p : Bs × Bs) (h : Val l) (e : escL k l = .ok p) : Val p.1 ∧ Val p.2 := by
  cases l with
  | nil => cases e
  | cons c t =>
    have one : ∀ x : UInt8, x.toNat < 128 → Val [x] := fun x hx => Val.low hx Val.nil
    rw [escL] at e
    split at e
    · rename_i hc
      have hlow : c.toNat < 128 := by rcases hc with hc | hc <;> subst hc <;> decide
      injection e with e; subst e
      exact ⟨one c hlow, h.tail hlow⟩
    split at e
    · rename_i hc
      subst hc
      injection e with e; subst e
      exact ⟨one 10 (by decide), h.tail (by decide)⟩
    split at e
    · rename_i hc
      subst hc
      injection e with e; subst e
      exact ⟨one 9 (by decide), h.tail (by decide)⟩
    split at e
    · rename_i hc
      subst hc
      injection e with e; subst e
      exact ⟨one 13 (by decide), h.tail (by decide)⟩
    split at e
    · rename_i hc
      subst hc
      obtain ⟨q, h1, h2⟩ := R.next_eq_ok e
      obtain ⟨h3, h4⟩ := four_val k 4 0 t q (h.tail (by decide)) h1
      split at h2
      · cases h2
      · rename_i hs
        injection h2 with h2; subst h2
        have := Val.cons q.1 [] (by unfold RuneOk; simp at h4; omega) Val.nil
        rw [List.append_nil] at this
        exact ⟨this, h3⟩
    · cases e
theorem high_text : ∀ (bs t : Bs) (n : Nat) (q : Bs × Bs), (∀ c ∈ bs, 128 ≤ c.toNat) → textF n (bs ++ t) = .ok q → ∃ m b, m ≤ n ∧ (bs ≠ [] → m < n) ∧ textF m t = .ok (b, q.2) ∧ q.1 = bs ++ b
  | [], t, n, q, _, h => ⟨n, q.1, Nat.le_refl _, fun h => absurd rfl h, h, rfl⟩
  | c :: bs, t, 0, q, _, h => by cases h
  | c :: bs, t, n + 1, q, hb, h => by
    have hc := hb c List.mem_cons_self
    rw [List.cons_append, textF, if_neg (by rintro rfl; revert hc; decide), if_neg (by rintro rfl; revert hc; decide)] at h
    obtain ⟨a, h1, h2⟩ := R.next_eq_ok h
    obtain ⟨m, b, h3, h4, h5, h6⟩ := high_text bs t n a (fun x hx => hb x (List.mem_cons_of_mem _ hx)) h1
    injection h2 with h2; subst h2
    exact ⟨m, b, by omega, fun _ => by omega, h5, by rw [h6]; rfl⟩
theorem text_val : ∀ N n (l : Bs) (q : Bs × Bs), n < N → Val l → textF n l = .ok q → Val q.1 ∧ Val q.2
  | 0, n, l, q, hn, _, _ => by omega
  | N + 1, 0, l, q, _, _, h => by cases h
  | N + 1, n + 1, l, q, hn, hv, h => by
    cases hv with
    | nil => cases h
    | cons r t hr hv =>
      rcases rune_cases hr with ⟨h1, h2, h3⟩ | h1
      · rw [h2, List.singleton_append, textF] at h
        split at h
        · injection h with h; subst h; exact ⟨Val.nil, hv⟩
        split at h
        · obtain ⟨a, h4, h5⟩ := R.next_eq_ok h
          obtain ⟨b, h6, h7⟩ := R.next_eq_ok h5
          obtain ⟨k1, k2⟩ := esc_val _ _ _ hv h4
          obtain ⟨k3, k4⟩ := text_val N n _ _ (by omega) k2 h6
          injection h7 with h7; subst h7
          exact ⟨k1.append k3, k4⟩
        · obtain ⟨b, h6, h7⟩ := R.next_eq_ok h
          obtain ⟨k3, k4⟩ := text_val N n _ _ (by omega) hv h6
          injection h7 with h7; subst h7
          exact ⟨Val.low (by rw [h3]; exact h1) k3, k4⟩
      · obtain ⟨m, b, h3, h4, h5, h6⟩ := high_text _ _ _ _ h1 h
        have hne : Lib.encodeRune (r : Int) ≠ [] := fun e => by have := enc_pos (r : Int); rw [e] at this; simp at this
        obtain ⟨k3, k4⟩ := text_val N m _ _ (by have := h4 hne; omega) hv h5
        rw [h6]
        exact ⟨Val.cons r b hr k3, k4⟩
theorem dig_low {c : UInt8} (h : (decide (48 ≤ c.toNat) && decide (c.toNat ≤ 57)) = true) : c.toNat < 128 := by
  rw [Bool.and_eq_true] at h
  have := of_decide_eq_true h.2
  omega
theorem num_low {w : Bs} {n : Int} (h : numL w = some (some n)) : (∀ c ∈ w, c.toNat < 128) ∧ -9223372036854775808 ≤ n ∧ n ≤ 9223372036854775807 := by
  unfold numL at h
  split at h
  · rename_i hd
    have hb : ∀ c ∈ bareL w, c.toNat < 128 := by
      unfold digitsU at hd
      rw [Bool.and_eq_true] at hd
      exact fun c hc => dig_low (List.all_eq_true.1 hd.2 c hc)
    split at h
    · rename_i v hv
      split at h
      · cases h
      · injection h with h
        injection h with h
        subst h
        have hbd := Lib.parseIntB_bounds hv
        have e : (2 : Nat) ^ (64 - 1) = 9223372036854775808 := by decide
        rw [e] at hbd
        refine ⟨fun c hc => ?_, by omega, by omega⟩
        rcases w with _ | ⟨x, w⟩
        · cases hc
        · by_cases hs : x = 43 ∨ x = 45
          · have hbw : bareL (x :: w) = w := by show (if x = 43 ∨ x = 45 then w else x :: w) = w; rw [if_pos hs]
            rw [hbw] at hb
            rcases List.mem_cons.1 hc with rfl | hc
            · rcases hs with hs | hs <;> subst hs <;> decide
            · exact hb c hc
          · have hbw : bareL (x :: w) = x :: w := by show (if x = 43 ∨ x = 45 then w else x :: w) = x :: w; rw [if_neg hs]
            rw [hbw] at hb
            exact hb c hc
    · cases h
  · cases h
/-- What a word says is right, and the word is of low bytes. -/
theorem word_val {w : Bs} {k : Nat} {v : V} (h : wordV w k = .ok v) : (∀ c ∈ w, c.toNat < 128) ∧ okAll v = true ∧ V.size v = 1 ∧ depthV v = 0 ∧ numAll v := by
  unfold wordV at h
  split at h
  · rename_i hw
    injection h with h; subst h; subst hw
    exact ⟨by decide, by decide, by decide, by decide, ⟨⟨by decide, by decide⟩, trivial⟩⟩
  split at h
  · rename_i hw
    injection h with h; subst h; subst hw
    exact ⟨by decide, by decide, by decide, by decide, ⟨⟨by decide, by decide⟩, trivial⟩⟩
  split at h
  · rename_i hw
    injection h with h; subst h; subst hw
    exact ⟨by decide, by decide, by decide, by decide, ⟨⟨by decide, by decide⟩, trivial⟩⟩
  split at h
  · cases h
  split at h
  · cases h
  · cases h
  · rename_i n hn
    injection h with h; subst h
    obtain ⟨h1, h2, h3⟩ := num_low hn
    refine ⟨h1, ?_, rfl, rfl, ⟨⟨h2, h3⟩, trivial⟩⟩
    rw [okAll_eq, Bool.and_eq_true]
    exact ⟨(ok_2 n _ []).2 ⟨rfl, rfl⟩, rfl⟩
theorem sizes_perm {a b : List V} (h : a.Perm b) : V.sizes a = V.sizes b := by
  induction h with
  | nil => rfl
  | cons x _ ih => rw [V.sizes, V.sizes, ih]
  | swap x y l => rw [V.sizes, V.sizes, V.sizes, V.sizes]; omega
  | trans _ _ h1 h2 => rw [h1, h2]
theorem insP_perm (x : V × V) : ∀ l : List (V × V), (insP x l).Perm (x :: l)
  | [] => .refl _
  | y :: l => by
    rw [insP]
    split
    · exact .refl _
    · exact ((insP_perm x l).cons y).trans (.swap x y l)
theorem sortP_perm : ∀ l : List (V × V), (sortP l).Perm l
  | [] => .refl _
  | x :: l => by rw [sortP]; exact (insP_perm x (sortP l)).trans ((sortP_perm l).cons x)
theorem flatP_perm {a b : List (V × V)} (h : a.Perm b) : (flatP a).Perm (flatP b) := h.flatMap_right _
/-- What holds of a list's members, as far as a value of them asks. -/
structure Good (l : List V) (d f f' : Nat) : Prop where
  ok : okAlls l = true
  depth : ∀ x ∈ l, d + depthV x ≤ 16
  count : f + V.sizes l ≤ f'
  few : f' ≤ 1024
  nums : numAlls l
theorem okAlls_of {l : List V} (h : ∀ x ∈ l, okAll x = true) : okAlls l = true := by
  induction l with
  | nil => rfl
  | cons x l ih => rw [okAlls, h x List.mem_cons_self, ih fun y hy => h y (List.mem_cons_of_mem _ hy)]; rfl
/-- A value of such members. -/
structure Fine (v : V) (d f f' : Nat) : Prop where
  ok : okAll v = true
  depth : d + depthV v ≤ 16
  count : f + V.size v ≤ f'
  few : f' ≤ 1024
  nums : numAll v
theorem fine_of {l m : List V} {k : Int} {d f f' : Nat} (h : Good l (d + 1) (f + 1) f') (hd : d ≤ 16) (hp : m.Perm l) (hk : okAll (.mk k 0 ⟨#[]⟩ m) = true) : Fine (.mk k 0 ⟨#[]⟩ m) d f f' := by
  refine ⟨hk, ?_, ?_, h.few, ⟨⟨by decide, by decide⟩, ?_⟩⟩
  · have : depthL m ≤ 16 - d := depthL_le.2 fun x hx => by
      have := h.depth x (hp.mem_iff.1 hx)
      omega
    rw [depthV_eq]
    show d + depthL m ≤ 16
    omega
  · have := h.count
    rw [← sizes_perm hp] at this
    show f + (1 + V.sizes m) ≤ f'
    omega
  · rw [numAlls_iff]
    exact fun x hx => (numAlls_iff l).1 h.nums x (hp.mem_iff.1 hx)
theorem head_tail {l : Bs} {e : UInt8} (h : l.head? = some e) (he : e.toNat < 128) (hv : Val l) : Val l.tail := by
  rcases l with _ | ⟨c, t⟩
  · cases h
  · injection h with h
    subst h
    exact hv.tail he
theorem two_drop {l : Bs} (h : Lib.hasPrefix l [35, 95] = true) (hv : Val l) : Val (l.drop 2) := by
  rcases l with _ | ⟨a, _ | ⟨b, t⟩⟩
  · simp [Lib.hasPrefix] at h
  · simp [Lib.hasPrefix] at h
  · simp [Lib.hasPrefix] at h
    obtain ⟨h1, h2⟩ := h
    subst h1
    subst h2
    exact (hv.tail (by decide)).tail (by decide)
theorem read_right : ∀ n, (∀ d f l p, Val l → f ≤ 1024 → skipF true n d f l = .ok p → Val p.2 ∧ f ≤ p.1 ∧ p.1 ≤ 1024) ∧ (∀ d f l p, Val l → f ≤ 1024 → formF true n d f l = .ok p → Val p.2.2 ∧ Fine p.1 d f p.2.1) ∧
    (∀ e d f l p, Val l → f ≤ 1024 → e.toNat < 128 → itemsF true n e d f l = .ok p → Val p.2.2 ∧ Good p.1 d f p.2.1)
  | 0 => ⟨fun d f l p _ _ h => (by rw [skipF] at h; cases h), fun d f l p _ _ h => (by rw [formF] at h; cases h), fun e d f l p _ _ _ h => (by rw [itemsF] at h; cases h)⟩
  | n + 1 => by
    obtain ⟨hS, hF, hI⟩ := read_right n
    refine ⟨fun d f l p hv hf h => ?_, fun d f l p hv hf h => ?_, fun e d f l p hv hf he h => ?_⟩
    · rw [skipF] at h
      have h0 := space_val _ l (Nat.lt_succ_self _) hv
      split at h
      · rename_i hp
        obtain ⟨a, h1, h2⟩ := R.next_eq_ok h
        obtain ⟨b, h3, h4⟩ := R.next_eq_ok h2
        obtain ⟨k1, k2, k3⟩ := hS _ _ _ _ (two_drop hp h0) hf h1
        obtain ⟨k4, k5⟩ := hF _ _ _ _ k1 k3 h3
        obtain ⟨k6, k7, k8⟩ := hS _ _ _ _ k4 k5.few h4
        have := k5.count
        exact ⟨k6, by omega, k8⟩
      · injection h with h; subst h
        exact ⟨h0, Nat.le_refl _, hf⟩
    · cases l with
      | nil => rw [formF] at h; cases h
      | cons c t =>
        rw [formF] at h
        split at h
        · cases h
        split at h
        · cases h
        rename_i hd16
        have hd : d ≤ 16 := by omega
        split at h
        · cases h
        rename_i hf1
        have hf2 : f + 1 ≤ 1024 := by omega
        split at h
        · rename_i hc
          subst hc
          obtain ⟨a, h1, h2⟩ := R.next_eq_ok h
          obtain ⟨k1, k2⟩ := text_val _ _ _ _ (Nat.lt_succ_self _) (hv.tail (by decide)) h1
          split at h2
          · cases h2
          rename_i hlen
          injection h2 with h2; subst h2
          refine ⟨k2, ?_, ?_, ?_, hf2, ⟨⟨by decide, by decide⟩, trivial⟩⟩
          · show okAll (.mk 3 0 ⟨a.1.toArray⟩ []) = true
            rw [okAll_eq, Bool.and_eq_true]
            refine ⟨(ok_3 0 _ []).2 ⟨rfl, ?_, (val_utf _).1 k1, rfl⟩, rfl⟩
            show a.1.toArray.size ≤ 256
            rw [List.size_toArray]; omega
          · show d + 0 ≤ 16
            omega
          · show f + 1 ≤ f + 1
            omega
        split at h
        · rename_i hc
          subst hc
          obtain ⟨a, h1, h2⟩ := R.next_eq_ok h
          obtain ⟨k1, k2⟩ := hI _ _ _ _ _ (hv.tail (by decide)) hf2 (by decide) h1
          have hh := itemsF_head _ _ _ _ _ _ _ h1
          injection h2 with h2; subst h2
          refine ⟨head_tail hh (by decide) k1, fine_of (l := a.1) (m := a.1) (k := 4) k2 hd (.refl _) ?_⟩
          rw [okAll_eq, Bool.and_eq_true]
          exact ⟨(ok_4 0 _ _).2 ⟨rfl, rfl⟩, k2.ok⟩
        split at h
        · rename_i hc
          subst hc
          obtain ⟨a, h1, h2⟩ := R.next_eq_ok h
          obtain ⟨k1, k2⟩ := hI _ _ _ _ _ (hv.tail (by decide)) hf2 (by decide) h1
          have hh := itemsF_head _ _ _ _ _ _ _ h1
          injection h2 with h2; subst h2
          refine ⟨head_tail hh (by decide) k1, fine_of (l := a.1) (m := a.1) (k := 4) k2 hd (.refl _) ?_⟩
          rw [okAll_eq, Bool.and_eq_true]
          exact ⟨(ok_4 0 _ _).2 ⟨rfl, rfl⟩, k2.ok⟩
        split at h
        · rename_i hc
          subst hc
          obtain ⟨a, h1, h2⟩ := R.next_eq_ok h
          obtain ⟨k1, k2⟩ := hI _ _ _ _ _ (hv.tail (by decide)) hf2 (by decide) h1
          have hh := itemsF_head _ _ _ _ _ _ _ h1
          split at h2
          · cases h2
          rename_i hodd
          obtain ⟨v, h3, h4⟩ := R.next_eq_ok h2
          injection h4 with h4; subst h4
          unfold mapR at h3
          rw [if_neg (by decide)] at h3
          split at h3
          · rename_i hm
            injection h3 with h3; subst h3
            refine ⟨head_tail hh (by decide) k1, fine_of (l := a.1) (m := flatP (sortP (pairsV a.1))) (k := 6) k2 hd ?_ (right_all hm.2)⟩
            have h5 := flatP_perm (sortP_perm (pairsV a.1))
            rw [flat_pairs a.1 (by omega)] at h5
            exact h5
          · cases h3
        split at h
        · rename_i hc
          subst hc
          split at h
          · rename_i ht
            obtain ⟨a, h1, h2⟩ := R.next_eq_ok h
            obtain ⟨k1, k2⟩ := hI _ _ _ _ _ (head_tail ht (by decide) (hv.tail (by decide))) hf2 (by decide) h1
            have hh := itemsF_head _ _ _ _ _ _ _ h1
            obtain ⟨v, h3, h4⟩ := R.next_eq_ok h2
            injection h4 with h4; subst h4
            unfold setR at h3
            split at h3
            · rename_i hm
              injection h3 with h3; subst h3
              exact ⟨head_tail hh (by decide) k1, fine_of (l := a.1) (m := sortV a.1) (k := 5) k2 hd (sortV_perm _) (right_all hm.2)⟩
            · cases h3
          · cases h
        · obtain ⟨v, h1, h2⟩ := R.next_eq_ok h
          injection h2 with h2; subst h2
          obtain ⟨k1, k2, k3, k4, k5⟩ := word_val h1
          refine ⟨?_, k2, by rw [k4]; exact hd, by rw [k3]; exact Nat.le_refl _, hf2, k5⟩
          have := word_rest (c :: t)
          rw [← this] at hv
          exact low_drop hv k1
    · rw [itemsF] at h
      obtain ⟨a, h1, h2⟩ := R.next_eq_ok h
      obtain ⟨k1, k2, k3⟩ := hS _ _ _ _ hv hf h1
      split at h2
      · injection h2 with h2; subst h2
        exact ⟨k1, rfl, fun x hx => (by cases hx), by show f + 0 ≤ a.1; omega, k3, trivial⟩
      · obtain ⟨b, h3, h4⟩ := R.next_eq_ok h2
        obtain ⟨g, h5, h6⟩ := R.next_eq_ok h4
        obtain ⟨k4, k5⟩ := hF _ _ _ _ k1 k3 h3
        obtain ⟨k6, k7⟩ := hI _ _ _ _ _ k4 k5.few he h5
        injection h6 with h6; subst h6
        refine ⟨k6, ?_, ?_, ?_, k7.few, ⟨k5.nums, k7.nums⟩⟩
        · show okAlls (b.1 :: g.1) = true
          rw [okAlls, k5.ok, k7.ok]; rfl
        · intro x hx
          rcases List.mem_cons.1 hx with rfl | hx
          · exact k5.depth
          · exact k7.depth x hx
        · have h7 := k5.count
          have h8 := k7.count
          show f + (V.size b.1 + V.sizes g.1) ≤ g.2.1
          omega
theorem whole_right {n : Nat} {l : Bs} {v : V} (hv : Val l) (h : wholeF true n l = .ok v) : rightB v = true ∧ numAll v := by
  unfold wholeF at h
  obtain ⟨a, h1, h2⟩ := R.next_eq_ok h
  obtain ⟨b, h3, h4⟩ := R.next_eq_ok h2
  obtain ⟨c, h5, h6⟩ := R.next_eq_ok h4
  obtain ⟨k1, k2, k3⟩ := (read_right n).1 _ _ _ _ hv (by omega) h1
  obtain ⟨k4, k5⟩ := (read_right n).2.1 _ _ _ _ k1 k3 h3
  split at h6
  · injection h6 with h6; subst h6
    have h7 := k5.depth
    have h8 := k5.count
    have h9 := k5.few
    exact ⟨right_of k5.ok (by omega) (by omega), k5.nums⟩
  · cases h6
end Go.Proofs.YtoiipdknamgcmaaGreatDoor

/- Blanks and remarks ahead of a text and behind it: in plain Lean. -/
set_option linter.unusedVariables false
set_option linter.unusedSimpArgs false
namespace Go.Proofs.YtoiipdknamgcmaaGreatDoor
open Go.RowKit Go.Shelf

/-- What is put behind. -/
abbrev zB : Bs := [10, 59]
theorem space_end : ∀ (l : Bs) (b : Bool), spaceL b (l ++ zB) = if spaceL b l = [] then [] else spaceL b l ++ zB
  | [], b => by cases b <;> rfl
  | c :: t, true => by
    rw [List.cons_append, spaceL, spaceL]
    split
    · exact space_end t false
    · exact space_end t true
  | c :: t, false => by
    rw [List.cons_append, spaceL, spaceL]
    split
    · exact space_end t false
    · split
      · exact space_end t true
      · rw [if_neg (by simp)]; rfl
theorem prefix_end {l : Bs} (h : l ≠ []) : Lib.hasPrefix (l ++ zB) [35, 95] = Lib.hasPrefix l [35, 95] := by
  rcases l with _ | ⟨a, _ | ⟨b, t⟩⟩
  · exact absurd rfl h
  · simp [Lib.hasPrefix, List.isPrefixOf]
  · simp [Lib.hasPrefix, List.isPrefixOf]
/-- What is left, with and without what is put behind. -/
def Rel (r r' : Bs) : Prop := r' = r ++ zB ∨ (r = [] ∧ r' = [])
/-- An answer where one form more was read already. -/
def bad28 {α : Type} (r : R α) : Prop := ∃ k, r = .bad 28 k
theorem bad28_next {α β : Type} {r : R α} (h : bad28 r) (f : α → R β) : bad28 (r.next f) := by
  obtain ⟨k, rfl⟩ := h
  exact ⟨k, rfl⟩
theorem four_end (k k' : Nat) : ∀ (n a : Nat) (l : Bs) (p : Nat × Bs), fourL k n a l = .ok p → fourL k' n a (l ++ zB) = .ok (p.1, p.2 ++ zB)
  | 0, a, l, p, h => by
    simp only [fourL] at h ⊢
    injection h with h
    subst h
    rfl
  | n + 1, a, [], p, h => by simp [fourL] at h
  | n + 1, a, c :: t, p, h => by
    rw [fourL] at h
    rw [List.cons_append, fourL]
    split at h
    · cases h
    · rename_i d hd
      exact four_end k k' n _ t p h
theorem esc_end (k k' : Nat) (l : Bs) (p : Bs × Bs) (h : escL k l = .ok p) : escL k' (l ++ zB) = .ok (p.1, p.2 ++ zB) := by
  cases l with
  | nil => cases h
  | cons c t =>
    rw [escL] at h
    rw [List.cons_append, escL]
    split at h
    · rename_i hc
      injection h with h; subst h
      rw [if_pos hc]
    rename_i h1
    split at h
    · rename_i hc
      injection h with h; subst h
      rw [if_neg h1, if_pos hc]
    rename_i h2
    split at h
    · rename_i hc
      injection h with h; subst h
      rw [if_neg h1, if_neg h2, if_pos hc]
    rename_i h3
    split at h
    · rename_i hc
      injection h with h; subst h
      rw [if_neg h1, if_neg h2, if_neg h3, if_pos hc]
    rename_i h4
    split at h
    · rename_i hc
      obtain ⟨q, h5, h6⟩ := R.next_eq_ok h
      rw [if_neg h1, if_neg h2, if_neg h3, if_neg h4, if_pos hc, four_end k k' _ _ _ _ h5, R.next_ok]
      split at h6
      · cases h6
      · rename_i hs
        injection h6 with h6; subst h6
        dsimp only
        rw [if_neg hs]
    · cases h
theorem text_end : ∀ (n : Nat) (l : Bs) (p : Bs × Bs), textF n l = .ok p → textF n (l ++ zB) = .ok (p.1, p.2 ++ zB)
  | 0, l, p, h => by cases h
  | n + 1, [], p, h => by cases h
  | n + 1, c :: t, p, h => by
    rw [textF] at h
    rw [List.cons_append, textF]
    split at h
    · rename_i hc
      injection h with h; subst h
      rw [if_pos hc]
    rename_i h1
    split at h
    · rename_i hc
      obtain ⟨a, h2, h3⟩ := R.next_eq_ok h
      obtain ⟨b, h4, h5⟩ := R.next_eq_ok h3
      injection h5 with h5; subst h5
      rw [if_neg h1, if_pos hc, esc_end _ ((t ++ zB).length + 1) _ _ h2, R.next_ok]
      dsimp only
      rw [text_end n _ _ h4, R.next_ok]
    · rename_i h2
      obtain ⟨b, h4, h5⟩ := R.next_eq_ok h
      injection h5 with h5; subst h5
      rw [if_neg h1, if_neg h2, text_end n _ _ h4, R.next_ok]
theorem text_end' (t : Bs) (p : Bs × Bs) (h : textF (t.length + 1) t = .ok p) : textF ((t ++ zB).length + 1) (t ++ zB) = .ok (p.1, p.2 ++ zB) := by
  have h1 := text_end _ _ _ h
  rw [← textF_same (n := t.length + 1) (by rw [h1]; exact ok_in _) (textF_in _ _ (Nat.lt_succ_self _)), h1]
theorem word_end (l : Bs) : wordL (l ++ zB) = wordL l ∧ restL (l ++ zB) = restL l ++ zB := by
  unfold wordL restL
  induction l with
  | nil => exact ⟨rfl, rfl⟩
  | cons c t ih =>
    rw [List.cons_append, List.takeWhile_cons, List.takeWhile_cons, List.dropWhile_cons, List.dropWhile_cons]
    cases he : endsU c with
    | true => exact ⟨rfl, rfl⟩
    | false =>
      obtain ⟨h1, h2⟩ := ih
      refine ⟨?_, ?_⟩
      · simp only [Bool.not_false, if_true]; rw [h1]
      · simp only [Bool.not_false, if_true]; exact h2
theorem wordV_any {w : Bs} {k : Nat} {v : V} (h : wordV w k = .ok v) (k' : Nat) : wordV w k' = .ok v := by
  unfold wordV at h ⊢
  split at h
  · rename_i h1; rw [if_pos h1]; exact h
  rename_i h1
  split at h
  · rename_i h2; rw [if_neg h1, if_pos h2]; exact h
  rename_i h2
  split at h
  · rename_i h3; rw [if_neg h1, if_neg h2, if_pos h3]; exact h
  rename_i h3
  split at h
  · cases h
  rename_i h4
  rw [if_neg h1, if_neg h2, if_neg h3, if_neg h4]
  split at h
  · cases h
  · cases h
  · exact h
theorem setR_any {l : List V} {k : Nat} {v : V} (h : setR l k = .ok v) (k' : Nat) : setR l k' = .ok v := by
  unfold setR at h ⊢
  split at h
  · rename_i h1; rw [if_pos h1]; exact h
  · cases h
theorem mapR_any {l : List V} {k : Nat} {v : V} (h : mapR true l k = .ok v) (k' : Nat) : mapR true l k' = .ok v := by
  unfold mapR at h ⊢
  rw [if_neg (by decide)] at h ⊢
  split at h
  · rename_i h1; rw [if_pos h1]; exact h
  · cases h
theorem head_end {r : Bs} {e : UInt8} (h : r.head? = some e) {r' : Bs} (hr : Rel r r') : r' = r ++ zB ∧ r'.head? = some e ∧ r'.tail = r.tail ++ zB := by
  rcases hr with rfl | ⟨rfl, _⟩
  · rcases r with _ | ⟨c, t⟩
    · cases h
    · exact ⟨rfl, h, rfl⟩
  · cases h
theorem head_not {r : Bs} {e : UInt8} (he : e ≠ 10) (h : ¬ r.head? = some e) {r' : Bs} (hr : Rel r r') : ¬ r'.head? = some e := by
  rcases hr with rfl | ⟨rfl, rfl⟩
  · rcases r with _ | ⟨c, t⟩
    · intro h2
      injection h2 with h2
      exact he h2.symm
    · exact h
  · exact h
theorem blank_end : ∀ n, (∀ d f l p, skipF true n d f l = .ok p → ∀ l', Rel l l' → bad28 (skipF true n d (f + 1) l') ∨ ∃ r', skipF true n d (f + 1) l' = .ok (p.1 + 1, r') ∧ Rel p.2 r') ∧
    (∀ d f l p, formF true n d f l = .ok p → ∀ l', Rel l l' → bad28 (formF true n d (f + 1) l') ∨ ∃ r', formF true n d (f + 1) l' = .ok (p.1, p.2.1 + 1, r') ∧ Rel p.2.2 r') ∧
    (∀ e d f l p, e ≠ 10 → itemsF true n e d f l = .ok p → ∀ l', Rel l l' → bad28 (itemsF true n e d (f + 1) l') ∨ ∃ r', itemsF true n e d (f + 1) l' = .ok (p.1, p.2.1 + 1, r') ∧ Rel p.2.2 r')
  | 0 => ⟨fun d f l p h => (by rw [skipF] at h; cases h), fun d f l p h => (by rw [formF] at h; cases h), fun e d f l p _ h => (by rw [itemsF] at h; cases h)⟩
  | n + 1 => by
    obtain ⟨hS, hF, hI⟩ := blank_end n
    refine ⟨fun d f l p h l' hl => ?_, fun d f l p h l' hl => ?_, fun e d f l p he h l' hl => ?_⟩
    · rcases hl with rfl | ⟨rfl, rfl⟩
      · rw [skipF] at h ⊢
        rw [space_end]
        by_cases h0 : spaceL false l = []
        · rw [if_pos h0]
          rw [h0, if_neg (by simp [Lib.hasPrefix])] at h
          rw [if_neg (by simp [Lib.hasPrefix])]
          injection h with h; subst h
          exact .inr ⟨[], rfl, .inr ⟨rfl, rfl⟩⟩
        · rw [if_neg h0, prefix_end h0]
          split at h
          · rename_i hp
            rw [if_pos hp]
            obtain ⟨a, h1, h2⟩ := R.next_eq_ok h
            obtain ⟨b, h3, h4⟩ := R.next_eq_ok h2
            have hd : (spaceL false l ++ zB).drop 2 = (spaceL false l).drop 2 ++ zB := by
              rcases hq : spaceL false l with _ | ⟨x, _ | ⟨y, t⟩⟩
              · exact absurd hq h0
              · rw [hq] at hp; simp [Lib.hasPrefix] at hp
              · rfl
            rw [hd]
            rcases hS _ _ _ _ h1 _ (.inl rfl) with k | ⟨r1, k1, k2⟩
            · exact .inl (bad28_next k _)
            rw [k1, R.next_ok]
            rcases hF _ _ _ _ h3 _ k2 with k | ⟨r2, k3, k4⟩
            · exact .inl (bad28_next k _)
            rw [k3, R.next_ok]
            exact hS _ _ _ _ h4 _ k4
          · rename_i hp
            rw [if_neg hp]
            injection h with h; subst h
            exact .inr ⟨_, rfl, .inl rfl⟩
      · rw [skipF] at h ⊢
        have h0 : spaceL false [] = [] := rfl
        rw [h0, if_neg (by simp [Lib.hasPrefix])] at h ⊢
        injection h with h; subst h
        exact .inr ⟨[], rfl, .inr ⟨rfl, rfl⟩⟩
    · cases l with
      | nil => rw [formF] at h; cases h
      | cons c t =>
        rcases hl with rfl | ⟨hl, _⟩
        rotate_left
        · cases hl
        rw [formF] at h
        rw [List.cons_append, formF]
        split at h
        · cases h
        rename_i g1
        split at h
        · cases h
        rename_i g2
        split at h
        · cases h
        rename_i g3
        rw [if_neg g1, if_neg g2]
        by_cases g4 : 1024 < f + 1 + 1
        · rw [if_pos g4]
          exact .inl ⟨_, rfl⟩
        rw [if_neg g4]
        split at h
        · rename_i hc
          rw [if_pos hc]
          obtain ⟨a, h1, h2⟩ := R.next_eq_ok h
          rw [text_end' _ _ h1, R.next_ok]
          split at h2
          · cases h2
          rename_i hlen
          injection h2 with h2; subst h2
          dsimp only
          rw [if_neg hlen]
          exact .inr ⟨_, rfl, .inl rfl⟩
        rename_i g5
        rw [if_neg g5]
        split at h
        · rename_i hc
          rw [if_pos hc]
          obtain ⟨a, h1, h2⟩ := R.next_eq_ok h
          have hh := itemsF_head _ _ _ _ _ _ _ h1
          injection h2 with h2; subst h2
          rcases hI _ _ _ _ _ (by decide) h1 _ (.inl rfl) with k | ⟨r1, k1, k2⟩
          · exact .inl (bad28_next k _)
          rw [k1, R.next_ok]
          exact .inr ⟨_, rfl, .inl (head_end hh k2).2.2⟩
        rename_i g6
        rw [if_neg g6]
        split at h
        · rename_i hc
          rw [if_pos hc]
          obtain ⟨a, h1, h2⟩ := R.next_eq_ok h
          have hh := itemsF_head _ _ _ _ _ _ _ h1
          injection h2 with h2; subst h2
          rcases hI _ _ _ _ _ (by decide) h1 _ (.inl rfl) with k | ⟨r1, k1, k2⟩
          · exact .inl (bad28_next k _)
          rw [k1, R.next_ok]
          exact .inr ⟨_, rfl, .inl (head_end hh k2).2.2⟩
        rename_i g7
        rw [if_neg g7]
        split at h
        · rename_i hc
          rw [if_pos hc]
          obtain ⟨a, h1, h2⟩ := R.next_eq_ok h
          have hh := itemsF_head _ _ _ _ _ _ _ h1
          split at h2
          · cases h2
          rename_i hodd
          obtain ⟨v, h3, h4⟩ := R.next_eq_ok h2
          injection h4 with h4; subst h4
          rcases hI _ _ _ _ _ (by decide) h1 _ (.inl rfl) with k | ⟨r1, k1, k2⟩
          · exact .inl (bad28_next k _)
          rw [k1, R.next_ok]
          dsimp only
          rw [if_neg hodd, mapR_any h3, R.next_ok]
          exact .inr ⟨_, rfl, .inl (head_end hh k2).2.2⟩
        rename_i g8
        rw [if_neg g8]
        split at h
        · rename_i hc
          rw [if_pos hc]
          split at h
          · rename_i ht
            have ht2 : (t ++ zB).head? = some 123 ∧ (t ++ zB).tail = t.tail ++ zB := (head_end ht (.inl rfl)).2
            rw [if_pos ht2.1, ht2.2]
            obtain ⟨a, h1, h2⟩ := R.next_eq_ok h
            have hh := itemsF_head _ _ _ _ _ _ _ h1
            obtain ⟨v, h3, h4⟩ := R.next_eq_ok h2
            injection h4 with h4; subst h4
            rcases hI _ _ _ _ _ (by decide) h1 _ (.inl rfl) with k | ⟨r1, k1, k2⟩
            · exact .inl (bad28_next k _)
            rw [k1, R.next_ok]
            dsimp only
            rw [setR_any h3, R.next_ok]
            exact .inr ⟨_, rfl, .inl (head_end hh k2).2.2⟩
          · cases h
        · rename_i g9
          rw [if_neg g9]
          obtain ⟨v, h1, h2⟩ := R.next_eq_ok h
          injection h2 with h2; subst h2
          obtain ⟨k1, k2⟩ := word_end (c :: t)
          rw [List.cons_append] at k1 k2
          rw [k1, k2, wordV_any h1, R.next_ok]
          exact .inr ⟨_, rfl, .inl rfl⟩
    · rw [itemsF] at h ⊢
      obtain ⟨a, h1, h2⟩ := R.next_eq_ok h
      rcases hS _ _ _ _ h1 _ hl with k | ⟨r1, k1, k2⟩
      · exact .inl (bad28_next k _)
      rw [k1, R.next_ok]
      split at h2
      · rename_i hh
        rw [if_pos (head_end hh k2).2.1]
        injection h2 with h2; subst h2
        exact .inr ⟨r1, rfl, k2⟩
      · rename_i hh
        rw [if_neg (head_not he hh k2)]
        obtain ⟨b, h3, h4⟩ := R.next_eq_ok h2
        obtain ⟨g, h5, h6⟩ := R.next_eq_ok h4
        rcases hF _ _ _ _ h3 _ k2 with k | ⟨r2, k3, k4⟩
        · exact .inl (bad28_next k _)
        rw [k3, R.next_ok]
        rcases hI _ _ _ _ _ he h5 _ k4 with k | ⟨r3, k5, k6⟩
        · exact .inl (bad28_next k _)
        injection h6 with h6; subst h6
        rw [k5, R.next_ok]
        exact .inr ⟨r3, rfl, k6⟩
theorem space_head : ∀ (l : Bs) (b : Bool), spaceL b l = [] ∨ ∃ c t, spaceL b l = c :: t ∧ blankU c = false
  | [], b => by cases b <;> exact .inl rfl
  | c :: t, true => by
    rw [spaceL]
    split
    · exact space_head t false
    · exact space_head t true
  | c :: t, false => by
    rw [spaceL]
    split
    · exact space_head t false
    · rename_i h
      split
      · exact space_head t true
      · exact .inr ⟨c, t, rfl, by simpa using h⟩
theorem skip_clean : ∀ (n d f : Nat) (l : Bs) (p : Nat × Bs), skipF true n d f l = .ok p → p.2 ≠ [] ++ zB
  | 0, d, f, l, p, h => by rw [skipF] at h; cases h
  | n + 1, d, f, l, p, h => by
    rw [skipF] at h
    split at h
    · obtain ⟨a, h1, h2⟩ := R.next_eq_ok h
      obtain ⟨b, h3, h4⟩ := R.next_eq_ok h2
      exact skip_clean n _ _ _ _ h4
    · injection h with h; subst h
      show spaceL false l ≠ [] ++ zB
      rcases space_head l false with e | ⟨c, t, e, hc⟩
      · rw [e]; simp
      · rw [e]
        intro h5
        injection h5 with h6 h7
        subst h6
        revert hc; decide
/-- What is put ahead: blanks, a remark, a form that is left out. -/
def aheadB : Bs := [32, 44, 59, 32, 115, 111, 10, 32, 35, 95, 32, 110, 105, 108, 32]
theorem ahead_space (l : Bs) : spaceL false (aheadB ++ l) = [35, 95, 32, 110, 105, 108, 32] ++ l := by
  unfold aheadB
  simp only [List.cons_append, List.nil_append]
  rfl
theorem skip_one (n d f : Nat) (l : Bs) : skipF true (n + 1) d f (32 :: l) = skipF true (n + 1) d f l := by
  have : spaceL false (32 :: l) = spaceL false l := by rw [spaceL, if_pos (by decide)]
  rw [skipF.eq_2 true d f (32 :: l) n, skipF.eq_2 true d f l n, this]
/-- BLANKS AND REMARKS CHANGE NOTHING, but that there is one form more. -/
theorem whole_blank (n N : Nat) (l : Bs) (v : V) (h : wholeF true n l = .ok v) (hN : wholeF true N (aheadB ++ l ++ zB) ≠ .out) :
    wholeF true N (aheadB ++ l ++ zB) = .ok v ∨ bad28 (wholeF true N (aheadB ++ l ++ zB)) := by
  have key : wholeF true (n + 3) (aheadB ++ l ++ zB) = .ok v ∨ bad28 (wholeF true (n + 3) (aheadB ++ l ++ zB)) := by
    have hw : wholeF true (n + 2) l = .ok v := by rw [wholeF_more 2 l (by rw [h]; exact ok_in _), h]
    unfold wholeF at hw ⊢
    obtain ⟨a, h1, h2⟩ := R.next_eq_ok hw
    obtain ⟨b, h3, h4⟩ := R.next_eq_ok h2
    obtain ⟨c, h5, h6⟩ := R.next_eq_ok h4
    have hsk : skipF true (n + 3) 0 0 (aheadB ++ l ++ zB) = skipF true (n + 2) 0 1 (32 :: (l ++ zB)) := by
      rw [List.append_assoc, skipF, ahead_space]
      simp only [List.cons_append, List.nil_append]
      rw [if_pos (by simp [Lib.hasPrefix])]
      simp only [List.drop_succ_cons, List.drop_zero]
      have e1 : skipF true (n + 2) 0 0 (32 :: 110 :: 105 :: 108 :: 32 :: (l ++ zB)) = .ok (0, 110 :: 105 :: 108 :: 32 :: (l ++ zB)) := by
        rw [skipF]
        have : spaceL false (32 :: 110 :: 105 :: 108 :: 32 :: (l ++ zB)) = 110 :: 105 :: 108 :: 32 :: (l ++ zB) := rfl
        rw [this, if_neg (by simp [Lib.hasPrefix])]
      rw [e1, R.next_ok]
      have e2 : formF true (n + 2) 0 0 (110 :: 105 :: 108 :: 32 :: (l ++ zB)) = .ok (V.zero, 0 + 1, 32 :: (l ++ zB)) :=
        form_word (w := [110, 105, 108]) (t := [105, 108]) (c := 110) (r := 32 :: (l ++ zB)) (by decide) rfl (by decide) (by decide) (by decide) (by decide : endsU 32 = true) (fun k => by unfold wordV; rw [if_pos rfl]) (n + 1)
      dsimp only
      rw [e2, R.next_ok]
    have hs2 : skipF true (n + 2) 0 1 (32 :: (l ++ zB)) = skipF true (n + 2) 0 (0 + 1) (l ++ zB) := skip_one (n + 1) 0 1 (l ++ zB)
    rw [hsk, hs2]
    obtain ⟨hS, hF, hI⟩ := blank_end (n + 2)
    rcases hS _ _ _ _ h1 (l ++ zB) (.inl rfl) with k | ⟨r1, k1, k2⟩
    · exact .inr (bad28_next k _)
    rw [k1, R.next_ok]
    rcases hF _ _ _ _ h3 _ k2 with k | ⟨r2, k3, k4⟩
    · refine .inr (bad28_next ?_ _)
      obtain ⟨j, hj⟩ := k
      exact ⟨j, by rw [formF_more 1 0 _ _ (by dsimp only; rw [hj]; exact bad_in _ _)]; exact hj⟩
    have k3' := formF_up k3 (show n + 2 ≤ n + 3 by omega)
    dsimp only
    rw [k3', R.next_ok]
    rcases hS _ _ _ _ h5 _ k4 with k | ⟨r3, k5, k6⟩
    · refine .inr (bad28_next ?_ _)
      obtain ⟨j, hj⟩ := k
      exact ⟨j, by rw [skipF_more 1 0 _ _ (by dsimp only; rw [hj]; exact bad_in _ _)]; exact hj⟩
    have k5' := skipF_up k5 (show n + 2 ≤ n + 3 by omega)
    dsimp only
    rw [k5', R.next_ok]
    split at h6
    · rename_i hc
      injection h6 with h6; subst h6
      have : r3 = [] := by
        rcases k6 with e | ⟨_, e⟩
        · exfalso
          have hsp : c.2 = [] := hc
          rw [hsp] at e
          exact skip_clean _ _ _ _ _ k5 e
        · exact e
      subst this
      exact .inl rfl
    · cases h6
  rcases key with key | ⟨k, key⟩
  · left
    rw [← wholeF_same (n := n + 3) (by rw [key]; exact ok_in _) hN, key]
  · right
    exact ⟨k, by rw [← wholeF_same (n := n + 3) (by rw [key]; exact bad_in _ _) hN, key]⟩
end Go.Proofs.YtoiipdknamgcmaaGreatDoor

/- What is wrong has a number; a printed form is of whole letters. -/
set_option linter.unusedVariables false
set_option linter.unusedSimpArgs false
namespace Go.Proofs.YtoiipdknamgcmaaGreatDoor
open Go.RowKit Go.Shelf

def Nz {α : Type} (r : R α) : Prop := ∀ e k, r = .bad e k → e ≠ 0
theorem Nz.out {α : Type} : Nz (R.out : R α) := fun e k h => by cases h
theorem Nz.ok {α : Type} (a : α) : Nz (R.ok a) := fun e k h => by cases h
theorem Nz.bad {α : Type} {e : Int} (k : Nat) (he : e ≠ 0) : Nz (R.bad e k : R α) := fun e' k' h => by injection h with h1 h2; subst h1; exact he
theorem Nz.next {α β : Type} {r : R α} {f : α → R β} (h : Nz r) (hf : ∀ a, Nz (f a)) : Nz (r.next f) := by
  cases r with
  | out => exact Nz.out
  | bad e k => exact Nz.bad k (h e k rfl)
  | ok a => exact hf a
theorem Nz.ite {α : Type} {p : Prop} [Decidable p] {a b : R α} (h : Nz a) (k : Nz b) : Nz (if p then a else b) := by
  split
  · exact h
  · exact k
theorem four_nz (k : Nat) : ∀ (n a : Nat) (l : Bs), Nz (fourL k n a l)
  | 0, a, l => Nz.ok _
  | n + 1, a, [] => Nz.bad _ (by decide)
  | n + 1, a, c :: t => by
    rw [fourL]
    split
    · exact Nz.bad _ (by decide)
    · exact four_nz k n _ t
theorem esc_nz (k : Nat) (l : Bs) : Nz (escL k l) := by
  cases l with
  | nil => exact Nz.bad _ (by decide)
  | cons c t =>
    rw [escL]
    exact Nz.ite (Nz.ok _) (Nz.ite (Nz.ok _) (Nz.ite (Nz.ok _) (Nz.ite (Nz.ok _) (Nz.ite ((four_nz _ _ _ _).next fun a => Nz.ite (Nz.bad _ (by decide)) (Nz.ok _)) (Nz.bad _ (by decide))))))
theorem text_nz : ∀ (n : Nat) (l : Bs), Nz (textF n l)
  | 0, l => Nz.out
  | n + 1, [] => Nz.bad _ (by decide)
  | n + 1, c :: t => by
    rw [textF]
    exact Nz.ite (Nz.ok _) (Nz.ite ((esc_nz _ _).next fun p => (text_nz n _).next fun q => Nz.ok _) ((text_nz n _).next fun q => Nz.ok _))
theorem word_nz (w : Bs) (k : Nat) : Nz (wordV w k) := by
  unfold wordV
  refine Nz.ite (Nz.ok _) (Nz.ite (Nz.ok _) (Nz.ite (Nz.ok _) (Nz.ite (Nz.bad _ (by decide)) ?_)))
  split
  · exact Nz.bad _ (by decide)
  · exact Nz.bad _ (by decide)
  · exact Nz.ok _
theorem setR_nz (l : List V) (k : Nat) : Nz (setR l k) := by unfold setR; exact Nz.ite (Nz.ok _) (Nz.bad _ (by decide))
theorem mapR_nz (m : Bool) (l : List V) (k : Nat) : Nz (mapR m l k) := by unfold mapR; exact Nz.ite Nz.out (Nz.ite (Nz.ok _) (Nz.bad _ (by decide)))
theorem read_nz (m : Bool) : ∀ n, (∀ d f l, Nz (skipF m n d f l)) ∧ (∀ d f l, Nz (formF m n d f l)) ∧ (∀ e d f l, Nz (itemsF m n e d f l))
  | 0 => ⟨fun d f l => (by rw [skipF]; exact Nz.out), fun d f l => (by rw [formF]; exact Nz.out), fun e d f l => (by rw [itemsF]; exact Nz.out)⟩
  | n + 1 => by
    obtain ⟨hS, hF, hI⟩ := read_nz m n
    refine ⟨fun d f l => ?_, fun d f l => ?_, fun e d f l => ?_⟩
    · rw [skipF]
      exact Nz.ite ((hS _ _ _).next fun a => (hF _ _ _).next fun b => hS _ _ _) (Nz.ok _)
    · cases l with
      | nil => rw [formF]; exact Nz.bad _ (by decide)
      | cons c t =>
        rw [formF]
        refine Nz.ite (Nz.bad _ (by decide)) (Nz.ite (Nz.bad _ (by decide)) (Nz.ite (Nz.bad _ (by decide)) (Nz.ite ((text_nz _ _).next fun a => Nz.ite (Nz.bad _ (by decide)) (Nz.ok _)) (Nz.ite ((hI _ _ _ _).next fun a => Nz.ok _) (Nz.ite ((hI _ _ _ _).next fun a => Nz.ok _) (Nz.ite ((hI _ _ _ _).next fun a => Nz.ite (Nz.bad _ (by decide)) ((mapR_nz _ _ _).next fun _ => Nz.ok _)) (Nz.ite (Nz.ite ((hI _ _ _ _).next fun a => (setR_nz _ _).next fun _ => Nz.ok _) (Nz.bad _ (by decide))) ((word_nz _ _).next fun _ => Nz.ok _))))))))
    · rw [itemsF]
      exact (hS _ _ _).next fun a => Nz.ite (Nz.ok _) ((hF _ _ _).next fun b => (hI _ _ _ _).next fun c => Nz.ok _)
theorem whole_nz (m : Bool) (n : Nat) (l : Bs) : Nz (wholeF m n l) := by
  obtain ⟨hS, hF, hI⟩ := read_nz m n
  unfold wholeF
  exact (hS _ _ _).next fun a => (hF _ _ _).next fun b => (hS _ _ _).next fun c => Nz.ite (Nz.ok _) (Nz.bad _ (by decide))
theorem escY_fin : ∀ i : Fin 128, ∀ c ∈ escY (UInt8.ofNat i.val), c.toNat < 128 := by decide +kernel
theorem escB_val {l : Bs} (h : Val l) : Val (escB l) := by
  induction h with
  | nil => exact Val.nil
  | cons r t h k ih =>
    rw [escB_append]
    refine Val.append ?_ ih
    rcases rune_cases h with ⟨h1, h2, h3⟩ | h1
    · rw [h2]
      unfold escB
      rw [List.flatMap_cons, List.flatMap_nil, List.append_nil]
      exact low_list fun c hc => escY_fin ⟨r, h1⟩ c hc
    · rw [escB_high h1]
      have := Val.cons r [] h Val.nil
      rwa [List.append_nil] at this
theorem itoa_val (n : Int) : Val (Lib.itoa n) := by
  refine low_list fun c hc => ?_
  unfold Lib.itoa at hc
  have hd : ∀ u, c ∈ Lib.decDigits u → c.toNat < 128 := fun u h => by
    have := dec_digits u c h
    unfold isDig at this
    omega
  split at hc
  · rcases List.mem_cons.1 hc with rfl | hc
    · decide
    · exact hd _ hc
  · exact hd _ hc
mutual
theorem prB_val : ∀ x : V, okAll x = true → Val (prB x)
  | .mk k n t l, h => by
    have hu := okAll_utf h
    rw [okAll, Bool.and_eq_true] at h
    have hl : ∀ f, Val (prLB l f) := prLB_val l h.2
    unfold prB
    have lit : ∀ b : Bs, (∀ c ∈ b, c.toNat < 128) → Val b := fun b h => low_list h
    split
    · exact lit _ (by decide)
    split
    · split
      · exact lit _ (by decide)
      · exact lit _ (by decide)
    split
    · exact itoa_val n
    split
    · rename_i h3
      refine Val.append (Val.append (lit _ (by decide)) (escB_val ?_)) (lit _ (by decide))
      have h4 := hu h3
      have h5 := val_of_utf t _ 0 (Nat.lt_succ_self _) h4
      simpa using h5
    split
    · exact Val.append (Val.append (lit _ (by decide)) (hl _)) (lit _ (by decide))
    split
    · exact Val.append (Val.append (lit _ (by decide)) (hl _)) (lit _ (by decide))
    · exact Val.append (Val.append (lit _ (by decide)) (hl _)) (lit _ (by decide))
theorem prLB_val : ∀ l : List V, okAlls l = true → ∀ f, Val (prLB l f)
  | [], _, f => by unfold prLB; exact Val.nil
  | x :: l, h, f => by
    rw [okAlls, Bool.and_eq_true] at h
    unfold prLB
    refine Val.append (Val.append ?_ (prB_val x h.1)) (prLB_val l h.2 false)
    split
    · exact Val.nil
    · exact low_list (by decide)
end
theorem blank_val {l : Bs} (h : Val l) : Val (aheadB ++ l ++ zB) := Val.append (Val.append (low_list (by decide)) h) (low_list (by decide))
end Go.Proofs.YtoiipdknamgcmaaGreatDoor
