/- What the reader of texts says, as a plain function on the bytes that are left. How many bytes are left behind what was read. -/
import Derived.Lib.ParseIntB
import Derived.Lib.RuneBytes
import Derived.Test.YtoiipdknamgcmaaGreatDoorCUtf
import Derived.Test.YtoiipdknamgcmaaGreatDoorCBut
/- What the reader of texts says, as a plain function on the bytes that are left. -/
set_option linter.unusedVariables false
set_option linter.unusedSimpArgs false
namespace Go.Proofs.YtoiipdknamgcmaaGreatDoor
open Go.RowKit Go.Shelf

/-- What reading says: no answer within the fuel; an error and how many bytes are left at its place; what was read. -/
inductive R (α : Type) where
  | out
  | bad (e : Int) (k : Nat)
  | ok (a : α)
def R.next {α β : Type} (r : R α) (f : α → R β) : R β := match r with | .out => .out | .bad e k => .bad e k | .ok a => f a
@[simp] theorem R.next_out {α β : Type} (f : α → R β) : R.next .out f = .out := rfl
@[simp] theorem R.next_bad {α β : Type} (e : Int) (k : Nat) (f : α → R β) : R.next (.bad e k) f = .bad e k := rfl
@[simp] theorem R.next_ok {α β : Type} (a : α) (f : α → R β) : R.next (.ok a) f = f a := rfl
theorem R.next_out_of {α β : Type} {r : R α} {f : α → R β} {q : R β} (h : R.next r f = q) (hq : q ≠ .out) : r ≠ .out := by
  rintro rfl
  exact hq h.symm

abbrev Bs := List UInt8
def blankU (c : UInt8) : Bool := c == 32 || c == 9 || c == 10 || c == 13 || c == 44
def endsU (c : UInt8) : Bool := blankU c || (c == 59 || c == 34 || c == 40 || c == 41 || c == 91 || c == 93 || c == 123 || c == 125)
/-- Behind blanks and remarks; first: within a remark? -/
def spaceL : Bool → Bs → Bs
  | _, [] => []
  | true, c :: t => if c = 10 then spaceL false t else spaceL true t
  | false, c :: t => if blankU c = true then spaceL false t else if c = 59 then spaceL true t else c :: t
def wordL (l : Bs) : Bs := l.takeWhile fun c => !endsU c
def restL (l : Bs) : Bs := l.dropWhile fun c => !endsU c
def digitsU (w : Bs) : Bool := !w.isEmpty && w.all fun c => decide (48 ≤ c.toNat) && decide (c.toNat ≤ 57)
def bareL : Bs → Bs
  | [] => []
  | c :: t => if c = 43 ∨ c = 45 then t else c :: t
/-- A word's number; none: it is no number; none within: one that is not right. -/
def numL (w : Bs) : Option (Option Int) :=
  if digitsU (bareL w) = true then
    (match Lib.parseIntB 64 w with
    | .ok n => if 19 < (bareL w).length ∨ (1 < (bareL w).length ∧ (bareL w).head? = some 48) then some none else some (some n)
    | _ => some none)
  else none
/-- A word's value, k bytes being left at its beginning. -/
def wordV (w : Bs) (k : Nat) : R V :=
  if w = [110, 105, 108] then .ok V.zero
  else if w = [116, 114, 117, 101] then .ok (.mk 1 1 ⟨#[]⟩ [])
  else if w = [102, 97, 108, 115, 101] then .ok (.mk 1 0 ⟨#[]⟩ [])
  else if w = [] then .bad 22 k
  else match numL w with
    | none => .bad 22 k
    | some none => .bad 23 k
    | some (some n) => .ok (.mk 2 n ⟨#[]⟩ [])
def hexD (c : UInt8) : Option Nat :=
  if 48 ≤ c.toNat ∧ c.toNat ≤ 57 then some (c.toNat - 48)
  else if 97 ≤ c.toNat ∧ c.toNat ≤ 102 then some (c.toNat - 87)
  else if 65 ≤ c.toNat ∧ c.toNat ≤ 70 then some (c.toNat - 55)
  else none
/-- n digits; k: how many bytes are left at the escape. -/
def fourL (k : Nat) : Nat → Nat → Bs → R (Nat × Bs)
  | 0, a, l => .ok (a, l)
  | n + 1, a, [] => .bad 21 0
  | n + 1, a, c :: t => match hexD c with
    | none => .bad 24 k
    | some d => fourL k n (16 * a + d) t
/-- What is behind a backslash: its bytes, what is left. k: how many bytes are left at the escape. -/
def escL (k : Nat) : Bs → R (Bs × Bs)
  | [] => .bad 21 0
  | c :: t =>
    if c = 34 ∨ c = 92 then .ok ([c], t)
    else if c = 110 then .ok ([10], t)
    else if c = 116 then .ok ([9], t)
    else if c = 114 then .ok ([13], t)
    else if c = 117 then (fourL k 4 0 t).next fun p => if 55296 ≤ p.1 ∧ p.1 ≤ 57343 then .bad 24 k else .ok (Lib.encodeRune (p.1 : Int), p.2)
    else .bad 24 k
/-- A text behind its first quote, with fuel: its bytes, what is left. -/
def textF : Nat → Bs → R (Bs × Bs)
  | 0, _ => .out
  | n + 1, [] => .bad 21 0
  | n + 1, c :: t =>
    if c = 34 then .ok ([], t)
    else if c = 92 then (escL (t.length + 1) t).next fun p => (textF n p.2).next fun q => .ok (p.1 ++ q.1, q.2)
    else (textF n t).next fun q => .ok (c :: q.1, q.2)

def insV (x : V) : List V → List V
  | [] => [x]
  | y :: l => if cmpV x y ≤ 0 then x :: y :: l else y :: insV x l
def sortV : List V → List V
  | [] => []
  | x :: l => insV x (sortV l)
def V.str (s : ByteArray) : V := .mk 3 0 s []
def V.set (l : List V) : V := .mk 5 0 ⟨#[]⟩ l
def V.map (l : List V) : V := .mk 6 0 ⟨#[]⟩ l
def V.lst (l : List V) : V := .mk 4 0 ⟨#[]⟩ l
/-- Each of a list is right, and they are not too many. -/
def listOk (l : List V) : Bool := decide (l.length ≤ 65536) && l.all rightB
/-- A set's value, k bytes being left at its beginning. -/
def setR (l : List V) (k : Nat) : R V := if listOk l = true ∧ rightB (V.set (sortV l)) = true then .ok (V.set (sortV l)) else .bad 26 k
def pairsV : List V → List (V × V)
  | a :: b :: l => (a, b) :: pairsV l
  | _ => []
def insP (x : V × V) : List (V × V) → List (V × V)
  | [] => [x]
  | y :: l => if cmpV x.1 y.1 ≤ 0 then x :: y :: l else y :: insP x l
def sortP : List (V × V) → List (V × V)
  | [] => []
  | x :: l => insP x (sortP l)
def flatP (l : List (V × V)) : List V := l.flatMap fun p => [p.1, p.2]
def mapR (m : Bool) (l : List V) (k : Nat) : R V :=
  if m = false then .out
  else if listOk l = true ∧ rightB (V.map (flatP (sortP (pairsV l)))) = true then .ok (V.map (flatP (sortP (pairsV l)))) else .bad 26 k

mutual
/-- Behind blanks, remarks and forms that are left out. m: are maps told of? -/
def skipF (m : Bool) : Nat → Nat → Nat → Bs → R (Nat × Bs)
  | 0, _, _, _ => .out
  | n + 1, d, f, l =>
    if Lib.hasPrefix (spaceL false l) [35, 95] = true then (skipF m n d f ((spaceL false l).drop 2)).next fun p => (formF m n d p.1 p.2).next fun q => skipF m n d q.2.1 q.2.2
    else .ok (f, spaceL false l)
/-- A form. -/
def formF (m : Bool) : Nat → Nat → Nat → Bs → R (V × Nat × Bs)
  | 0, _, _, _ => .out
  | n + 1, d, f, [] => .bad 21 0
  | n + 1, d, f, c :: t =>
    if c = 41 ∨ c = 93 ∨ c = 125 then .bad 22 (t.length + 1)
    else if 16 < d then .bad 27 (t.length + 1)
    else if 1024 < f + 1 then .bad 28 (t.length + 1)
    else if c = 34 then (textF (t.length + 1) t).next fun p => if 256 < p.1.length then .bad 2 (t.length + 1) else .ok (V.str ⟨p.1.toArray⟩, f + 1, p.2)
    else if c = 40 then (itemsF m n 41 (d + 1) (f + 1) t).next fun p => .ok (V.lst p.1, p.2.1, p.2.2.tail)
    else if c = 91 then (itemsF m n 93 (d + 1) (f + 1) t).next fun p => .ok (V.lst p.1, p.2.1, p.2.2.tail)
    else if c = 123 then (itemsF m n 125 (d + 1) (f + 1) t).next fun p => if p.1.length % 2 = 1 then .bad 25 p.2.2.length else (mapR m p.1 (t.length + 1)).next fun v => .ok (v, p.2.1, p.2.2.tail)
    else if c = 35 then (if t.head? = some 123 then (itemsF m n 125 (d + 1) (f + 1) t.tail).next fun p => (setR p.1 (t.length + 1)).next fun v => .ok (v, p.2.1, p.2.2.tail) else .bad 22 (t.length + 1))
    else (wordV (wordL (c :: t)) (t.length + 1)).next fun v => .ok (v, f + 1, restL (c :: t))
/-- Forms up to an end. -/
def itemsF (m : Bool) : Nat → UInt8 → Nat → Nat → Bs → R (List V × Nat × Bs)
  | 0, _, _, _, _ => .out
  | n + 1, e, d, f, l => (skipF m n d f l).next fun p =>
    if p.2.head? = some e then .ok ([], p.1, p.2)
    else (formF m n d p.1 p.2).next fun q => (itemsF m n e d q.2.1 q.2.2).next fun r => .ok (q.1 :: r.1, r.2.1, r.2.2)
end
/-- A whole text, with fuel. -/
def wholeF (m : Bool) (n : Nat) (l : Bs) : R V :=
  (skipF m n 0 0 l).next fun p => (formF m n 0 p.1 p.2).next fun q => (skipF m n 0 q.2.1 q.2.2).next fun r => if r.2 = [] then .ok q.1 else .bad 29 r.2.length
end Go.Proofs.YtoiipdknamgcmaaGreatDoor

/- How many bytes are left behind what was read. -/
set_option linter.unusedVariables false
set_option linter.unusedSimpArgs false
namespace Go.Proofs.YtoiipdknamgcmaaGreatDoor
open Go.RowKit Go.Shelf

theorem R.next_eq_ok {α β : Type} {r : R α} {f : α → R β} {b : β} (h : r.next f = .ok b) : ∃ a, r = .ok a ∧ f a = .ok b := by
  cases r with
  | out => cases h
  | bad e k => cases h
  | ok a => exact ⟨a, rfl, h⟩
theorem R.next_eq_bad {α β : Type} {r : R α} {f : α → R β} {e : Int} {k : Nat} (h : r.next f = .bad e k) : r = .bad e k ∨ ∃ a, r = .ok a ∧ f a = .bad e k := by
  cases r with
  | out => cases h
  | bad e' k' => rw [R.next_bad] at h; injection h with h1 h2; subst h1; subst h2; exact .inl rfl
  | ok a => exact .inr ⟨a, rfl, h⟩
theorem spaceL_le : ∀ (l : Bs) (b : Bool), (spaceL b l).length ≤ l.length
  | [], b => by cases b <;> simp [spaceL]
  | c :: t, true => by
    have h1 := spaceL_le t true
    have h2 := spaceL_le t false
    rw [spaceL, List.length_cons]
    split <;> omega
  | c :: t, false => by
    have h1 := spaceL_le t true
    have h2 := spaceL_le t false
    rw [spaceL, List.length_cons]
    split
    · omega
    · split
      · omega
      · simp
theorem restL_le (l : Bs) : (restL l).length ≤ l.length := by
  unfold restL
  induction l with
  | nil => simp
  | cons c t ih => rw [List.dropWhile_cons]; split <;> simp <;> omega
theorem word_rest (l : Bs) : wordL l ++ restL l = l := List.takeWhile_append_dropWhile ..
theorem fourL_le (k : Nat) : ∀ (n a : Nat) (l : Bs) (p : Nat × Bs), fourL k n a l = .ok p → p.2.length ≤ l.length
  | 0, a, l, p, h => by simp only [fourL] at h; injection h with h; subst h; exact Nat.le_refl _
  | n + 1, a, [], p, h => by simp [fourL] at h
  | n + 1, a, c :: t, p, h => by
    rw [fourL] at h
    split at h
    · cases h
    · have := fourL_le k n _ t p h
      simp; omega
theorem escL_le (k : Nat) : ∀ (l : Bs) (p : Bs × Bs), escL k l = .ok p → p.2.length < l.length
  | [], p, h => by cases h
  | c :: t, p, h => by
    rw [escL] at h
    rw [List.length_cons]
    split at h
    · injection h with h; subst h; exact Nat.lt_succ_self _
    split at h
    · injection h with h; subst h; exact Nat.lt_succ_self _
    split at h
    · injection h with h; subst h; exact Nat.lt_succ_self _
    split at h
    · injection h with h; subst h; exact Nat.lt_succ_self _
    split at h
    · obtain ⟨q, h1, h2⟩ := R.next_eq_ok h
      have := fourL_le k 4 0 t q h1
      split at h2
      · cases h2
      · injection h2 with h2; subst h2; simp only; omega
    · cases h
theorem textF_le : ∀ (n : Nat) (l : Bs) (p : Bs × Bs), textF n l = .ok p → p.2.length < l.length
  | 0, l, p, h => by cases h
  | n + 1, [], p, h => by cases h
  | n + 1, c :: t, p, h => by
    rw [textF] at h
    rw [List.length_cons]
    split at h
    · injection h with h; subst h; exact Nat.lt_succ_self _
    split at h
    · obtain ⟨a, h1, h2⟩ := R.next_eq_ok h
      obtain ⟨b, h3, h4⟩ := R.next_eq_ok h2
      have := escL_le _ _ _ h1
      have := textF_le n _ _ h3
      injection h4 with h4; subst h4; simp only; omega
    · obtain ⟨b, h3, h4⟩ := R.next_eq_ok h
      have := textF_le n _ _ h3
      injection h4 with h4; subst h4; simp only; omega
/-- The fuel for a text is enough. -/
theorem textF_in : ∀ (n : Nat) (l : Bs), l.length < n → textF n l ≠ .out
  | 0, l, h => by omega
  | n + 1, [], h => by intro e; cases e
  | n + 1, c :: t, h => by
    rw [List.length_cons] at h
    rw [textF]
    split
    · intro e; cases e
    split
    · cases h1 : escL (t.length + 1) t with
      | out =>
        exfalso
        have hf : ∀ (k m a : Nat) (l : Bs), fourL k m a l ≠ .out := by
          intro k m
          induction m with
          | zero => intro a l e; cases e
          | succ m ih =>
            intro a l e
            cases l with
            | nil => cases e
            | cons c t =>
              rw [fourL] at e
              split at e
              · cases e
              · exact ih _ _ e
        cases t with
        | nil => cases h1
        | cons c' t' =>
          rw [escL] at h1
          split at h1; cases h1
          split at h1; cases h1
          split at h1; cases h1
          split at h1; cases h1
          split at h1
          · cases h2 : fourL ((c' :: t').length + 1) 4 0 t' with
            | out => exact hf _ _ _ _ h2
            | bad e k => rw [h2] at h1; cases h1
            | ok a => rw [h2, R.next_ok] at h1; split at h1 <;> cases h1
          · cases h1
      | bad e k => intro e; cases e
      | ok a =>
        rw [R.next_ok]
        have := escL_le _ _ _ h1
        have := textF_in n a.2 (by omega)
        cases h2 : textF n a.2 with
        | out => exact absurd h2 this
        | bad e k => intro e; cases e
        | ok b => intro e; cases e
    · have := textF_in n t (by omega)
      cases h2 : textF n t with
      | out => exact absurd h2 this
      | bad e k => intro e; cases e
      | ok b => intro e; cases e
theorem wordL_pos {c : UInt8} {t : Bs} (h : endsU c = false) : (restL (c :: t)).length < (c :: t).length := by
  unfold restL
  rw [List.dropWhile_cons, h]
  have := restL_le t
  unfold restL at this
  simp
  omega
mutual
theorem skipF_le (m : Bool) : ∀ (n d f : Nat) (l : Bs) (p : Nat × Bs), skipF m n d f l = .ok p → p.2.length ≤ l.length
  | 0, d, f, l, p, h => by rw [skipF] at h; cases h
  | n + 1, d, f, l, p, h => by
    have h0 := spaceL_le l false
    rw [skipF] at h
    split at h
    · obtain ⟨a, h1, h2⟩ := R.next_eq_ok h
      obtain ⟨b, h3, h4⟩ := R.next_eq_ok h2
      have k1 := skipF_le m n _ _ _ _ h1
      have k2 := formF_lt m n _ _ _ _ h3
      have k3 := skipF_le m n _ _ _ _ h4
      rw [List.length_drop] at k1
      omega
    · injection h with h; subst h; exact h0
theorem formF_lt (m : Bool) : ∀ (n d f : Nat) (l : Bs) (p : V × Nat × Bs), formF m n d f l = .ok p → p.2.2.length < l.length
  | 0, d, f, l, p, h => by rw [formF] at h; cases h
  | n + 1, d, f, [], p, h => by rw [formF] at h; cases h
  | n + 1, d, f, c :: t, p, h => by
    rw [formF] at h
    rw [List.length_cons]
    split at h; cases h
    rename_i hcl
    split at h; cases h
    split at h; cases h
    split at h
    · obtain ⟨a, h1, h2⟩ := R.next_eq_ok h
      have := textF_le _ _ _ h1
      split at h2; cases h2
      injection h2 with h2; subst h2; simp only; omega
    rename_i h34
    split at h
    · obtain ⟨a, h1, h2⟩ := R.next_eq_ok h
      have := itemsF_le m n _ _ _ _ _ h1
      injection h2 with h2; subst h2; simp only [List.length_tail]; omega
    rename_i h40
    split at h
    · obtain ⟨a, h1, h2⟩ := R.next_eq_ok h
      have := itemsF_le m n _ _ _ _ _ h1
      injection h2 with h2; subst h2; simp only [List.length_tail]; omega
    rename_i h91
    split at h
    · obtain ⟨a, h1, h2⟩ := R.next_eq_ok h
      have := itemsF_le m n _ _ _ _ _ h1
      split at h2; cases h2
      obtain ⟨b, h3, h4⟩ := R.next_eq_ok h2
      injection h4 with h4; subst h4; simp only [List.length_tail]; omega
    rename_i h123
    split at h
    · split at h
      · obtain ⟨a, h1, h2⟩ := R.next_eq_ok h
        have := itemsF_le m n _ _ _ _ _ h1
        obtain ⟨b, h3, h4⟩ := R.next_eq_ok h2
        rw [List.length_tail] at this
        injection h4 with h4; subst h4; simp only [List.length_tail]; omega
      · cases h
    rename_i h35
    obtain ⟨a, h1, h2⟩ := R.next_eq_ok h
    injection h2 with h2; subst h2
    show (restL (c :: t)).length < _
    by_cases he : endsU c = true
    · exfalso
      have : wordL (c :: t) = [] := by unfold wordL; rw [List.takeWhile_cons, he]; rfl
      rw [this] at h1
      cases h1
    · exact wordL_pos (by simpa using he)
theorem itemsF_le (m : Bool) : ∀ (n : Nat) (e : UInt8) (d f : Nat) (l : Bs) (p : List V × Nat × Bs), itemsF m n e d f l = .ok p → p.2.2.length ≤ l.length
  | 0, e, d, f, l, p, h => by rw [itemsF] at h; cases h
  | n + 1, e, d, f, l, p, h => by
    rw [itemsF] at h
    obtain ⟨a, h1, h2⟩ := R.next_eq_ok h
    have k1 := skipF_le m n _ _ _ _ h1
    split at h2
    · injection h2 with h2; subst h2; exact k1
    obtain ⟨b, h3, h4⟩ := R.next_eq_ok h2
    obtain ⟨c, h5, h6⟩ := R.next_eq_ok h4
    have k2 := formF_lt m n _ _ _ _ h3
    have k3 := itemsF_le m n _ _ _ _ _ h5
    injection h6 with h6; subst h6; simp only; omega
end
theorem itemsF_head (m : Bool) : ∀ (n : Nat) (e : UInt8) (d f : Nat) (l : Bs) (p : List V × Nat × Bs), itemsF m n e d f l = .ok p → p.2.2.head? = some e
  | 0, e, d, f, l, p, h => by rw [itemsF] at h; cases h
  | n + 1, e, d, f, l, p, h => by
    rw [itemsF] at h
    obtain ⟨a, h1, h2⟩ := R.next_eq_ok h
    split at h2
    · rename_i hh
      injection h2 with h2; subst h2; exact hh
    obtain ⟨b, h3, h4⟩ := R.next_eq_ok h2
    obtain ⟨c, h5, h6⟩ := R.next_eq_ok h4
    have k3 := itemsF_head m n _ _ _ _ _ h5
    injection h6 with h6; subst h6; exact k3
theorem itemsF_count (m : Bool) : ∀ (n : Nat) (e : UInt8) (d f : Nat) (l : Bs) (p : List V × Nat × Bs), itemsF m n e d f l = .ok p → p.1.length ≤ l.length
  | 0, e, d, f, l, p, h => by rw [itemsF] at h; cases h
  | n + 1, e, d, f, l, p, h => by
    rw [itemsF] at h
    obtain ⟨a, h1, h2⟩ := R.next_eq_ok h
    have k1 := skipF_le m n _ _ _ _ h1
    split at h2
    · injection h2 with h2; subst h2; simp
    obtain ⟨b, h3, h4⟩ := R.next_eq_ok h2
    obtain ⟨c, h5, h6⟩ := R.next_eq_ok h4
    have k2 := formF_lt m n _ _ _ _ h3
    have k3 := itemsF_count m n _ _ _ _ _ h5
    injection h6 with h6; subst h6; simp only [List.length_cons]; omega
end Go.Proofs.YtoiipdknamgcmaaGreatDoor
