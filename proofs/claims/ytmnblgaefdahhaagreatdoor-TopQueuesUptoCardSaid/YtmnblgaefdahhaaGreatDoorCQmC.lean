/- Rows of numbers of one cell; Murmur3 of rows of hashes. -/
import Derived.Test.YtmnblgaefdahhaaGreatDoorCQmA
import Derived.Test.YtmnblgaefdahhaaGreatDoorCBase

set_option linter.unusedVariables false
set_option linter.unusedSimpArgs false
namespace Go.Proofs.YtmnblgaefdahhaaGreatDoor
open Go.RowKit Go.Shelf
attribute [local go_sem] lt_succ_of

/-- A slice of numbers, each one cell. -/
def IsX (e : Int → Value) (w : World) (l : List Int) (v : Value) : Prop :=
  ∃ A cap, v = .slice A l.length cap ∧ l.length ≤ cap ∧ l.length ≤ 4294967296 ∧ (l = [] ∨ ∃ ad, A = some ad ∧ ad.block < w.heap.size ∧ ∀ i (h : i < l.length), w.cell? (ad.add i) = some (e (l[i]'h)))
theorem IsX.below {e : Int → Value} {w w' : World} {l : List Int} {v : Value} (h : IsX e w l v) (hb : Below w.heap.size w w') : IsX e w' l v := by
  obtain ⟨A, cap, h1, h2, h3, h4⟩ := h
  refine ⟨A, cap, h1, h2, h3, ?_⟩
  rcases h4 with h4 | ⟨ad, h4, h5, h6⟩
  · exact .inl h4
  · exact .inr ⟨ad, h4, Nat.lt_of_lt_of_le h5 hb.size, fun i hi => cellB hb (h6 i hi)⟩
/-- A slice of numbers of the call's own. -/
def OwnX (T : TypeId) (e : Int → Value) (w : World) (base : Nat) (l : List Int) (v : Value) : Prop := w.ownsRow base T 1 v l.length (l.map e)
theorem OwnX.nil (T : TypeId) (e : Int → Value) (w : World) (base : Nat) : OwnX T e w base [] (.slice none 0 0) := World.ownsRow_nil _ _ _ _
theorem OwnX.own_lt {T : TypeId} {e : Int → Value} {w : World} {base : Nat} {l : List Int} {v : Value} (h : OwnX T e w base l v) (k : Nat) (hk : v.ownBlock = some k) : base ≤ k ∧ k < w.heap.size := World.ownsRow.lt h k hk
theorem OwnX.keep {T : TypeId} {e : Int → Value} {w w' : World} {base : Nat} {l : List Int} {v : Value} (h : OwnX T e w base l v) (ho : ∀ k, v.ownBlock = some k → w'.heap[k]? = w.heap[k]?) : OwnX T e w' base l v := by
  obtain ⟨h1, h2⟩ := h
  refine ⟨h1, ?_⟩
  rcases h2 with h2 | ⟨g, cap, cur, rfl, hg, hh, r⟩
  · exact .inl h2
  · exact .inr ⟨g, cap, cur, rfl, hg, by rw [ho g rfl]; exact hh, r⟩
theorem OwnX.below {T : TypeId} {e : Int → Value} {w w' : World} {base : Nat} {l : List Int} {v : Value} (h : OwnX T e w base l v) (hb : Below w.heap.size w w') : OwnX T e w' base l v := h.keep fun k hk => hb.block k (h.own_lt k hk).2
theorem OwnX.form {T : TypeId} {e : Int → Value} {w : World} {base : Nat} {l : List Int} {v : Value} (h : OwnX T e w base l v) : ∃ A cap, v = .slice A l.length cap ∧ l.length ≤ cap := by
  obtain ⟨_, h⟩ := h
  rcases h with ⟨rfl, h⟩ | ⟨g, cap, cur, rfl, _, _, h, _⟩
  · exact ⟨none, 0, by rw [h], by omega⟩
  · exact ⟨_, cap, rfl, h⟩
theorem OwnX.is {T : TypeId} {e : Int → Value} {w : World} {base : Nat} {l : List Int} {v : Value} (h : OwnX T e w base l v) (hl : l.length ≤ 4294967296) : IsX e w l v := by
  obtain ⟨h1, h2⟩ := h
  rcases h2 with ⟨rfl, h2⟩ | ⟨g, cap, cur, rfl, hg, hh, hc, hm, hs, ht⟩
  · obtain rfl : l = [] := List.length_eq_zero_iff.1 h2
    exact ⟨none, 0, rfl, Nat.le_refl _, Nat.zero_le _, .inl rfl⟩
  · refine ⟨_, cap, rfl, hc, hl, .inr ⟨⟨g, 0, none⟩, rfl, (Array.getElem?_eq_some_iff.1 hh).1, fun i hi => ?_⟩⟩
    rw [plus0]
    have h5 : cur.toList[i]? = some (e (l[i]'hi)) := by
      have h6 : (cur.toList.take (l.length * 1))[i]? = some (e (l[i]'hi)) := by rw [ht, List.getElem?_map, List.getElem?_eq_getElem hi]; rfl
      rw [List.getElem?_take] at h6
      split at h6
      · exact h6
      · cases h6
    simp only [World.cell?, hh]
    simpa using h5
section
variable {ops : Array Oper} {rest : List Oper} {o : Oper} {a : Act} {Q : Exit → Act → World → Prop}
/-- append(v, n), n in the box that has just been made. -/
theorem append_x {W : World} (T TS : TypeId) (e : Int → Value) (bytes : Nat) (hu : Tryz.prog.underlying TS = some (.slice T)) (z : Value) (hinf : (Tryz.prog.info? T).map (fun i => (i.zero, i.size, i.bytes)) = some (some z, 1, bytes)) (hzc : z.cells.size = 1) (hby : bytes ≤ 8) (base : Nat) (hgd : o.guard = none) (s x : Operand)
    (ho : o.op = .call { callee := .builtin .append, args := #[s, x], argTypes := #[TS, TS] }) (v : Value) (l : List Int) (n : Int) (hs : a.eval s = v) (hx : a.eval x = .slice (some ⟨W.heap.size, 0, none⟩) 1 1) (he : (e n).oneCell' = true) (HO : OwnX T e W base l v)
    (hbase : base ≤ W.heap.size) (hl : l.length ≤ 4294967296)
    (h : ∀ v1 w1, OwnX T e w1 base (l ++ [n]) v1 → W.grownBy w1 v.ownBlock → wpList Tryz.prog ops Q rest (a.put o.dst v1) w1) :
    wpList Tryz.prog ops Q (o :: rest) a (W.alloc (.cells #[e n] T)) := by
  obtain ⟨i, hi, hz0, hz1, hz2⟩ := info_parts hinf
  refine wpList_append_own_at (W.alloc (.cells #[e n] T)) hgd s x TS ho base T i z 1 bytes hu hi hz0 hz1 hz2 hzc (by decide) v l.length _ hs (World.ownsRow.alloc HO _) ⟨W.heap.size, 0, none⟩ 1 1 [e n] hx rfl
    (cell_one_new _ _ _) (by simpa using he) (by simp only [maxLen]; omega) (Nat.le_trans (Nat.mul_le_mul_left _ hby) (by omega)) (by simp; omega) ?_
  intro v1 w1 hown1 hg _ hat
  refine h v1 w1 ?_ (World.grownBy.trans (World.grownBy_alloc W _ _) hg)
  unfold OwnX
  rw [List.length_append, List.map_append]
  exact hown1
end
def eU (n : Int) : Value := .int .u32 n
def eH (n : Int) : Value := .int .u16 n
def stepO (h x : Int) : Int := (31 * h + x) % 4294967296
def stepA (h x : Int) : Int := (h + x) % 4294967296
def stepJ (h x : Int) : Int := wrap32 (wrap32 (31 * h) + x)
theorem foldl_take {f : Int → Int → Int} {a : Int} {l : List Int} {i : Nat} (h : i < l.length) : (l.take (i + 1)).foldl f a = f ((l.take i).foldl f a) (l[i]'h) := by
  rw [List.take_succ_eq_append_getElem h, List.foldl_append]
  rfl
set_option maxRecDepth 100000 in
theorem ordered_calls (l : List Int) (vl : Value) (w : World) (hl : IsX eU w l vl) :
    Calls Tryz.prog 102 #[vl] w fun e w' => e = .returned (.int .u32 (collH (l.foldl stepO 1) l.length)) ∧ w' = w := by
  obtain ⟨A, ca, rfl, hca, hla, hA⟩ := hl
  have HA := Lib.hid hA
  clear hA
  go_enter Tryz.func102, Tryz.ntmps102
  go_wp2_with fail
  go_loopw [3, 8] (fun vh vi wr => ∃ (i : Nat) (h : Int), vh = .int .u32 h ∧ vi = .int .i64 i ∧ i ≤ l.length ∧ Hid (h = (l.take i).foldl stepO 1) ∧ wr = w) (fun _ vi _ => l.length - (intOf vi).toNat)
  case atStart => exact ⟨0, 1, rfl, rfl, Nat.zero_le _, Lib.hid rfl, rfl⟩
  case round =>
    obtain ⟨i, h, rfl, rfl, hil, hh, rfl⟩ := hrel
    by_cases hlt : i < l.length
    · have hz : (i : Int) < (l.length : Int) := by omega
      obtain ⟨ad, had, hlb, hat⟩ := HA.out.resolve_left (fun e => by rw [e] at hlt; exact absurd hlt (Nat.not_lt_zero _))
      subst had
      have hc := hat i hlt
      unfold eU at hc
      have HF := Lib.hid (foldl_take (f := stepO) (a := 1) hlt)
      obtain ⟨x, hx⟩ : ∃ x, l[i]'hlt = x := ⟨_, rfl⟩
      rw [hx] at hc HF
      clear hat hx
      go_wp2_with fail
      go_roundw
      case rel => exact ⟨i + 1, stepO h x, by unfold stepO; simp, by go_num, by omega, Lib.hid (by rw [HF.out, hh.out]), by first | rfl | trivial⟩
      case measure => simp [intOf]; omega
    · have hz : ¬ (i : Int) < (l.length : Int) := by omega
      have HE : Hid (h = l.foldl stepO 1) := Lib.hid (by rw [hh.out, List.take_of_length_le (by omega)])
      go_wp2_with (go_at_call 110; refine (collH_calls _ _ _).mono ?_; rintro e w2 ⟨rfl, rfl⟩)
      go_ret
      exact ⟨by rw [← HE.out]; rfl, rfl⟩
set_option maxRecDepth 100000 in
theorem unordered_calls (l : List Int) (vl : Value) (w : World) (hl : IsX eU w l vl) :
    Calls Tryz.prog 104 #[vl] w fun e w' => e = .returned (.int .u32 (collH (l.foldl stepA 0) l.length)) ∧ w' = w := by
  obtain ⟨A, ca, rfl, hca, hla, hA⟩ := hl
  have HA := Lib.hid hA
  clear hA
  go_enter Tryz.func104, Tryz.ntmps104
  go_wp2_with fail
  go_loopw [3, 8] (fun vh vi wr => ∃ (i : Nat) (h : Int), vh = .int .u32 h ∧ vi = .int .i64 i ∧ i ≤ l.length ∧ Hid (h = (l.take i).foldl stepA 0) ∧ wr = w) (fun _ vi _ => l.length - (intOf vi).toNat)
  case atStart => exact ⟨0, 0, rfl, rfl, Nat.zero_le _, Lib.hid rfl, rfl⟩
  case round =>
    obtain ⟨i, h, rfl, rfl, hil, hh, rfl⟩ := hrel
    by_cases hlt : i < l.length
    · have hz : (i : Int) < (l.length : Int) := by omega
      obtain ⟨ad, had, hlb, hat⟩ := HA.out.resolve_left (fun e => by rw [e] at hlt; exact absurd hlt (Nat.not_lt_zero _))
      subst had
      have hc := hat i hlt
      unfold eU at hc
      have HF := Lib.hid (foldl_take (f := stepA) (a := 0) hlt)
      obtain ⟨x, hx⟩ : ∃ x, l[i]'hlt = x := ⟨_, rfl⟩
      rw [hx] at hc HF
      clear hat hx
      go_wp2_with fail
      go_roundw
      case rel => exact ⟨i + 1, stepA h x, by unfold stepA; simp, by go_num, by omega, Lib.hid (by rw [HF.out, hh.out]), by first | rfl | trivial⟩
      case measure => simp [intOf]; omega
    · have hz : ¬ (i : Int) < (l.length : Int) := by omega
      have HE : Hid (h = l.foldl stepA 0) := Lib.hid (by rw [hh.out, List.take_of_length_le (by omega)])
      go_wp2_with (go_at_call 110; refine (collH_calls _ _ _).mono ?_; rintro e w2 ⟨rfl, rfl⟩)
      go_ret
      exact ⟨by rw [← HE.out]; rfl, rfl⟩
set_option maxRecDepth 100000 in
theorem java_calls (l : List Int) (vl : Value) (w : World) (hl : IsX eH w l vl) (hu : ∀ x ∈ l, 0 ≤ x ∧ x < 65536) :
    Calls Tryz.prog 100 #[vl] w fun e w' => e = .returned (.int .i32 (l.foldl stepJ 0)) ∧ w' = w := by
  obtain ⟨A, ca, rfl, hca, hla, hA⟩ := hl
  have HA := Lib.hid hA
  have HU := Lib.hid hu
  clear hA hu
  go_enter Tryz.func100, Tryz.ntmps100
  go_wp2_with fail
  go_loopw [3, 8] (fun vh vi wr => ∃ (i : Nat) (h : Int), vh = .int .i32 h ∧ vi = .int .i64 i ∧ i ≤ l.length ∧ Hid (h = (l.take i).foldl stepJ 0) ∧ wr = w) (fun _ vi _ => l.length - (intOf vi).toNat)
  case atStart => exact ⟨0, 0, rfl, rfl, Nat.zero_le _, Lib.hid rfl, rfl⟩
  case round =>
    obtain ⟨i, h, rfl, rfl, hil, hh, rfl⟩ := hrel
    by_cases hlt : i < l.length
    · have hz : (i : Int) < (l.length : Int) := by omega
      obtain ⟨ad, had, hlb, hat⟩ := HA.out.resolve_left (fun e => by rw [e] at hlt; exact absurd hlt (Nat.not_lt_zero _))
      subst had
      have hc := hat i hlt
      unfold eH at hc
      have HF := Lib.hid (foldl_take (f := stepJ) (a := 0) hlt)
      have hux := HU.out (l[i]'hlt) (List.getElem_mem hlt)
      obtain ⟨x, hx⟩ : ∃ x, l[i]'hlt = x := ⟨_, rfl⟩
      rw [hx] at hc HF hux
      obtain ⟨hx0, hx1⟩ := hux
      have hxw : IntKind.i32.wrap x = x := by simp [IntKind.wrap, IntKind.bits, IntKind.signed]; omega
      clear hat hx
      go_wp2_with fail
      go_roundw
      case rel => exact ⟨i + 1, stepJ h x, by unfold stepJ; simp, by go_num, by omega, Lib.hid (by rw [HF.out, hh.out]), by first | rfl | trivial⟩
      case measure => simp [intOf]; omega
    · have hz : ¬ (i : Int) < (l.length : Int) := by omega
      have HE : Hid (h = l.foldl stepJ 0) := Lib.hid (by rw [hh.out, List.take_of_length_le (by omega)])
      go_wp2_with fail
      go_ret
      exact ⟨by rw [← HE.out]; rfl, rfl⟩
end Go.Proofs.YtmnblgaefdahhaaGreatDoor
