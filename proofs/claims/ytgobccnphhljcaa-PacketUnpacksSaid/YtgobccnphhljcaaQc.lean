/- What the printed functions compute, in plain Lean: bytes, numbers on the wire, spans. -/
import Derived.Test.YtgobccnphhljcaaQa
import Derived.Test.YtgobccnphhljcaaPd
namespace Go.Proofs.Ytgobccnphhljcaa
set_option linter.unusedVariables false

theorem Copy_eq {l : List UInt8} (h : l.length ≤ 140737488355328) : haulierkeep_Copy_byte l = some l := by
  unfold haulierkeep_Copy_byte
  rw [if_pos ⟨by simp [fits]; omega, by simpa using h⟩]; rfl
theorem cut_eq {l : List UInt8} {a b : Nat} (h : a ≤ b) (h2 : b ≤ l.length) : cut l (a : Int) (b : Int) = some ((l.take b).drop a) := by
  unfold cut
  rw [if_pos ⟨by omega, by omega, by omega⟩]; simp
theorem Cut_eq {l : List UInt8} {n : Nat} (h : n ≤ 140737488355328) : haulierkeep_Cut_byte l (n : Int) = some (l.take n) := by
  unfold haulierkeep_Cut_byte
  simp only [Option.bind_some]
  have e : (if (n : Int) < (l.length : Int) then (n : Int) else (l.length : Int)) = ((min n l.length : Nat) : Int) := by split <;> omega
  rw [e, show (0 : Int) = ((0 : Nat) : Int) from rfl, cut_eq (Nat.zero_le _) (Nat.min_le_right _ _)]
  simp only [Option.bind_some, List.drop_zero]
  rw [Copy_eq (by rw [List.length_take]; omega)]
  have : l.take (min n l.length) = l.take n := by
    rcases Nat.le_total n l.length with h1 | h1
    · rw [Nat.min_eq_left h1]
    · rw [Nat.min_eq_right h1, List.take_length, List.take_of_length_le h1]
  rw [this]; rfl
theorem same_loop {a b : List UInt8} (hl : a.length = b.length) (hs : a.length < 4611686018427387904) : ∀ (k i : Nat), i ≤ a.length → a.length - i < k → haulierkeep_Same_byte_l0 a b k (i : Int) = some (decide (a.drop i = b.drop i))
  | 0, i, _, h => by omega
  | k + 1, i, h, hk => by
    unfold haulierkeep_Same_byte_l0
    by_cases hi : i < a.length
    · have hj : i < b.length := by omega
      rw [if_pos (by omega)]
      simp only [idx, Int.toNat_natCast, if_pos (show (0 : Int) ≤ (i : Int) by omega), List.getElem?_eq_getElem hi, List.getElem?_eq_getElem hj, Option.bind_some]
      rw [List.drop_eq_getElem_cons hi, List.drop_eq_getElem_cons hj]
      by_cases he : a[i] = b[i]
      · rw [if_neg (by simp [he]), w64_small (by omega) (by omega)]
        have := same_loop hl hs k (i + 1) hi (by omega)
        rw [show ((i : Int) + 1) = ((i + 1 : Nat) : Int) by omega, this, he]
        simp only [List.cons.injEq, true_and]
      · have h2 : (a[i].toNat : Int) ≠ (b[i].toNat : Int) := fun h => he (by apply UInt8.toNat.inj; omega)
        rw [if_pos h2]
        simp only [List.cons.injEq, he, false_and, decide_false]
    · rw [if_neg (by omega), List.drop_eq_nil_of_le (by omega), List.drop_eq_nil_of_le (by omega)]; simp
theorem SameB_eq {a b : List UInt8} (hs : a.length < 4611686018427387904) : haulierkeep_Same_byte a b = some (decide (a = b)) := by
  unfold haulierkeep_Same_byte
  by_cases h : a.length = b.length
  · rw [if_neg (by simp [h])]
    have := same_loop h hs bigN 0 (Nat.zero_le _) (by simp [bigN]; omega)
    simpa using this
  · rw [if_pos (by omega)]
    have : a ≠ b := fun e => h (by rw [e])
    simp [this]
theorem Within_eq {a n : Int} (hn : 0 < n) (h2 : n < 4611686018427387904) : ∃ m : Nat, haulierkeep_Within a n = some (m : Int) ∧ (m : Int) < n := by
  have hm : -n < a.tmod n ∧ a.tmod n < n := ⟨Int.neg_lt_of_neg_lt (by have := Int.tmod_lt_of_pos (-a) hn; rw [Int.neg_tmod] at this; omega), Int.tmod_lt_of_pos _ hn⟩
  unfold haulierkeep_Within
  rw [if_neg (by omega), if_pos (by omega)]
  split
  · rw [w64_small (by omega) (by omega)]
    exact ⟨(a.tmod n + n).toNat, by congr 1; omega, by omega⟩
  · exact ⟨(a.tmod n).toNat, by congr 1; omega, by omega⟩
/-- Numbers on the wire. -/
theorem Size_eq (n : Int) : vint_Size n = some (vsize n : Int) := by
  unfold vint_Size vsize
  repeat' split
  all_goals first | rfl | (exfalso; omega)
theorem be_get {n : Nat} : ∀ {s i : Nat}, i < s → (bigE s n)[s - 1 - i]? = some (UInt8.ofNat (n / 256 ^ i))
  | 0, _, h => by omega
  | s + 1, i, h => by
    unfold bigE
    by_cases hi : i = s
    · subst hi
      rw [show i + 1 - 1 - i = 0 by omega]; rfl
    · rw [show s + 1 - 1 - i = (s - 1 - i) + 1 by omega, List.getElem?_cons_succ]
      exact be_get (by omega)
theorem sr64_byte {n : Int} (h0 : 0 ≤ n) {i : Nat} (hi : i ≤ 7) : u8of (sr64 n (8 * (i : Int))) = UInt8.ofNat (n.toNat / 256 ^ i) := by
  obtain ⟨m, rfl⟩ := Int.eq_ofNat_of_zero_le h0
  unfold sr64 u8of
  have e : (8 * (i : Int)).toNat = 8 * i := by omega
  rw [e, Nat.min_eq_left (by omega), Int.fdiv_eq_ediv_of_nonneg _ (by exact_mod_cast Nat.zero_le (2 ^ (8 * i)))]
  have e2 : ((m : Int) / 2 ^ (8 * i)) = ((m / 2 ^ (8 * i) : Nat) : Int) := by push_cast; rfl
  rw [e2, show ((m / 2 ^ (8 * i) : Nat) : Int) % 256 = ((m / 2 ^ (8 * i) % 256 : Nat) : Int) by omega, Int.toNat_natCast, Int.toNat_natCast, Nat.pow_mul, show 2 ^ 8 = 256 by rfl]
  apply UInt8.toNat.inj
  simp
theorem put_loop {n : Int} (h0 : 0 ≤ n) {s : Nat} (hs : s ≤ 8) : ∀ (i : Nat), i ≤ s → ∀ (k : Nat), i < k →
    vint_Put_l0 n (s : Int) k ((bigE s n.toNat).take (s - i)) ((i : Int) - 1) = some (marked (bigE s n.toNat) (vmark s))
  | 0, _, 0, h => by omega
  | 0, hi, k + 1, h => by
    unfold vint_Put_l0
    rw [if_neg (by omega), Nat.sub_zero, List.take_of_length_le (by rw [be_length]; omega)]
    have hl := be_length s n.toNat
    cases hb : bigE s n.toNat with
    | nil =>
      rw [hb] at hl
      simp at hl
      subst hl
      rfl
    | cons c l =>
      rw [hb] at hl
      rw [if_pos (by simp at hl; omega), if_pos ⟨by omega, by simp⟩]
      have hm : vint_mark (s : Int) = some (vmark s) := by
        unfold vint_mark vmark
        repeat' split
        all_goals first | rfl | (exfalso; omega)
      simp only [Int.toNat_zero, List.getElem?_cons_zero, Option.bind_some, hm]
      rw [if_pos ⟨by omega, by simp⟩]
      rfl
  | i + 1, hi, 0, h => by omega
  | i + 1, hi, k + 1, h => by
    unfold vint_Put_l0
    have e : ((i + 1 : Nat) : Int) - 1 = (i : Int) := by omega
    have e8 : w64 (8 * (i : Int)) = 8 * (i : Int) := w64_small (by omega) (by omega)
    rw [e, if_pos (by omega), e8, if_pos (by omega), sr64_byte h0 (by omega)]
    rw [if_pos ⟨by simp [fits, be_length]; omega, by simp [be_length]; omega⟩]
    simp only [Option.bind_some]
    have hg := be_get (n := n.toNat) (show i < s by omega)
    have ht : (bigE s n.toNat).take (s - (i + 1)) ++ [UInt8.ofNat (n.toNat / 256 ^ i)] = (bigE s n.toNat).take (s - i) := by
      rw [show s - i = (s - (i + 1)) + 1 by omega, List.take_add_one, show s - (i + 1) = s - 1 - i by omega, hg]; rfl
    rw [ht, w64_small (by omega) (by omega)]
    exact put_loop h0 hs i (by omega) k (by omega)
theorem Put_eq (n : Int) : vint_Put n = some (vput n) := by
  unfold vint_Put
  rw [Size_eq]
  simp only [Option.bind_some]
  have hs := vsize_le n
  rw [w64_small (by omega) (by omega)]
  rcases vsize_cases n with ⟨h, _⟩ | ⟨h0, _, _⟩
  · rw [h]
    have hp : vput n = [] := List.eq_nil_of_length_eq_zero (by rw [vput_length, h])
    rw [hp]
    rfl
  · have := put_loop h0 hs (vsize n) (Nat.le_refl _) bigN (by unfold bigN; omega)
    rw [Nat.sub_self, List.take_zero] at this
    exact this
theorem concat_loop0 {p : List (List UInt8)} (hp : p.length < 4611686018427387904) : ∀ (k i a : Nat), i ≤ p.length → p.length - i < k → a + (p.drop i).flatten.length < 4611686018427387904 →
    slices_Concat_sbyte_byte_l0 p k (a : Int) (i : Int) = some ((a + (p.drop i).flatten.length : Nat) : Int)
  | 0, i, a, _, h, _ => by omega
  | k + 1, i, a, h, hk, hb => by
    unfold slices_Concat_sbyte_byte_l0
    by_cases hi : i < p.length
    · rw [List.drop_eq_getElem_cons hi, List.flatten_cons, List.length_append] at hb ⊢
      rw [if_pos (by omega)]
      simp only [idx, Int.toNat_natCast, if_pos (show (0 : Int) ≤ (i : Int) by omega), List.getElem?_eq_getElem hi, Option.bind_some]
      rw [w64_small (by omega) (by omega), w64_small (by omega) (by omega), if_neg (by omega)]
      have := concat_loop0 hp k (i + 1) (a + p[i].length) hi (by omega) (by omega)
      rw [show ((a : Int) + (p[i].length : Int)) = ((a + p[i].length : Nat) : Int) by omega, show ((i : Int) + 1) = ((i + 1 : Nat) : Int) by omega, this]
      congr 2; omega
    · rw [if_neg (by omega), List.drop_eq_nil_of_le (by omega)]; simp
theorem concat_loop1 {p : List (List UInt8)} (hp : p.length < 4611686018427387904) : ∀ (k i : Nat) (a : List UInt8), i ≤ p.length → p.length - i < k → (a ++ (p.drop i).flatten).length ≤ 140737488355328 →
    slices_Concat_sbyte_byte_l1 p k a (i : Int) = some (a ++ (p.drop i).flatten)
  | 0, i, a, _, h, _ => by omega
  | k + 1, i, a, h, hk, hb => by
    unfold slices_Concat_sbyte_byte_l1
    by_cases hi : i < p.length
    · rw [List.drop_eq_getElem_cons hi, List.flatten_cons, ← List.append_assoc] at hb ⊢
      rw [if_pos (by omega)]
      simp only [idx, Int.toNat_natCast, if_pos (show (0 : Int) ≤ (i : Int) by omega), List.getElem?_eq_getElem hi, Option.bind_some]
      have hl : a.length + p[i].length ≤ 140737488355328 := by simp only [List.length_append] at hb; omega
      rw [if_pos ⟨by unfold fits; omega, hl⟩, w64_small (by omega) (by omega), show ((i : Int) + 1) = ((i + 1 : Nat) : Int) by omega]
      exact concat_loop1 hp k (i + 1) _ hi (by omega) hb
    · rw [if_neg (by omega), List.drop_eq_nil_of_le (by omega)]; simp
theorem Concat_eq {p : List (List UInt8)} (hp : p.length < 4611686018427387904) (h : p.flatten.length ≤ 140737488351300) : slices_Concat_sbyte_byte p = some p.flatten := by
  unfold slices_Concat_sbyte_byte
  have h0 := concat_loop0 hp bigN 0 0 (Nat.zero_le _) (by unfold bigN; omega) (by simp only [List.drop_zero]; omega)
  have h1 := concat_loop1 hp bigN 0 [] (Nat.zero_le _) (by unfold bigN; omega) (by simp only [List.drop_zero, List.nil_append]; omega)
  simp only [List.drop_zero, Nat.zero_add, List.nil_append] at h0 h1
  rw [show ((0 : Nat) : Int) = 0 from rfl] at h0 h1
  rw [h0]
  simp only [Option.bind_some, slices_Grow_sbyte_byte]
  rw [if_pos ⟨trivial, by omega, by omega⟩]
  exact h1
theorem Span_eq {b : List UInt8} (h : b.length ≤ 1000000000000) : span_Pack b = some (vput (b.length : Int) ++ b) := by
  unfold span_Pack
  rw [Put_eq]
  simp only [Option.bind_some]
  have hl := vput_length (b.length : Int)
  have hs := vsize_le (b.length : Int)
  rw [Concat_eq (by simp) (by simp; omega)]
  simp
end Go.Proofs.Ytgobccnphhljcaa
