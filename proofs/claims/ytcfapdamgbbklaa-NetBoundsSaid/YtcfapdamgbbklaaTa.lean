/- What the printed functions compute, in plain Lean: numbers, pieces, a packet's check, numbers on the wire, spans. (33 36 6) -/
import Derived.Test.YtcfapdamgbbklaaDf
import Derived.Test.YtcfapdamgbbklaaPd
namespace Go.Proofs.Ytcfapdamgbbklaa
set_option linter.unusedVariables false

theorem w64_small {n : Int} (h1 : -9223372036854775808 ≤ n) (h2 : n < 9223372036854775808) : w64 n = n := by
  simp only [w64, IntKind.wrap, IntKind.bits, IntKind.signed]
  simp
  omega
theorem upto_eq (a b : Int) : packet_upto a b = some (decide (0 ≤ a ∧ a ≤ b)) := by
  unfold packet_upto
  split
  · rename_i h; simp [h]
  · rename_i h; simp; omega
/-- A packet as the wire may say it. -/
def Pok (p : api_Packet) : Prop :=
  0 ≤ p.Path ∧ p.Path ≤ 2 ∧ 0 ≤ p.Number ∧ p.Number ≤ 65535 ∧
  ((p.Kind = 1 ∧ p.Of = 0 ∧ p.From = 0 ∧ p.Data = [] ∧ p.Fin = false ∧ p.Seen = 0 ∧ p.Limit = 0) ∨
   (p.Kind = 2 ∧ 0 ≤ p.Of ∧ p.Of ≤ 65535 ∧ p.From = 0 ∧ p.Data = [] ∧ p.Fin = false ∧ p.Seen = 0 ∧ p.Limit = 0) ∨
   (p.Kind = 3 ∧ p.Of = 0 ∧ 0 ≤ p.From ∧ p.From ≤ 4096 ∧ p.Data.length ≤ 64 ∧ p.From + p.Data.length ≤ 4096 ∧ p.Seen = 0 ∧ p.Limit = 0) ∨
   (p.Kind = 4 ∧ 0 ≤ p.Of ∧ p.Of ≤ 65535 ∧ p.From = 0 ∧ p.Data = [] ∧ p.Fin = false ∧ 0 ≤ p.Seen ∧ p.Seen ≤ 4097 ∧ 0 ≤ p.Limit ∧ p.Limit ≤ 4496))
instance (p : api_Packet) : Decidable (Pok p) := by unfold Pok; infer_instance
theorem Same_eq (p q : api_Packet) : packet_Same p q = some (decide (p = q)) := by
  obtain ⟨a1, a2, a3, a4, a5, a6, a7, a8, a9⟩ := p
  obtain ⟨b1, b2, b3, b4, b5, b6, b7, b8, b9⟩ := q
  simp only [packet_Same, bytes_Equal, Option.bind_some, api_Packet.mk.injEq]
  by_cases h1 : a1 = b1 <;> by_cases h2 : a2 = b2 <;> by_cases h3 : a3 = b3 <;> by_cases h4 : a4 = b4 <;> by_cases h5 : a5 = b5 <;> by_cases h6 : a6 = b6 <;> simp [h1, h2, h3, h4, h5, h6]
  by_cases h7 : a7 = b7 <;> by_cases h8 : a8 = b8 <;> by_cases h9 : a9 = b9 <;> simp [h7, h8, h9]
theorem fields_eq (p : api_Packet) : packet_fields p = some (decide ((p.Kind = 1) ∨ (p.Kind = 2 ∧ 0 ≤ p.Of ∧ p.Of ≤ 65535) ∨ (p.Kind = 3 ∧ 0 ≤ p.From ∧ p.From ≤ 4096 ∧ p.Data.length ≤ 64 ∧ p.From + p.Data.length ≤ 4096) ∨ (p.Kind = 4 ∧ 0 ≤ p.Of ∧ p.Of ≤ 65535 ∧ 0 ≤ p.Seen ∧ p.Seen ≤ 4097 ∧ 0 ≤ p.Limit ∧ p.Limit ≤ 4496))) := by
  unfold packet_fields
  simp only [upto_eq, Option.bind_some]
  split
  · rename_i h; simp [h]
  · split
    · rename_i h1 h
      split
      · rename_i h2
        simp only [decide_eq_true_eq] at h2
        have hw : w64 (4096 - p.From) = 4096 - p.From := w64_small (by omega) (by omega)
        split
        · rename_i h3
          rw [hw]
          first | (congr 1; rw [decide_eq_decide]; omega) | (congr 1; rw [eq_comm, decide_eq_false_iff_not]; omega)
        · rename_i h3
          first | (congr 1; rw [decide_eq_decide]; omega) | (congr 1; rw [eq_comm, decide_eq_false_iff_not]; omega)
      · rename_i h2
        simp only [decide_eq_true_eq] at h2
        first | (congr 1; rw [decide_eq_decide]; omega) | (congr 1; rw [eq_comm, decide_eq_false_iff_not]; omega)
    · split
      · rename_i h1 h3 h
        split
        · rename_i h2
          simp only [decide_eq_true_eq] at h2
          split
          · rename_i h4
            simp only [decide_eq_true_eq] at h4
            first | (congr 1; rw [decide_eq_decide]; omega) | (congr 1; rw [eq_comm, decide_eq_false_iff_not]; omega)
          · rename_i h4
            simp only [decide_eq_true_eq] at h4
            first | (congr 1; rw [decide_eq_decide]; omega) | (congr 1; rw [eq_comm, decide_eq_false_iff_not]; omega)
        · rename_i h2
          simp only [decide_eq_true_eq] at h2
          first | (congr 1; rw [decide_eq_decide]; omega) | (congr 1; rw [eq_comm, decide_eq_false_iff_not]; omega)
      · rename_i h1 h3 h
        simp [h1, h3, h]
theorem Check_eq (p : api_Packet) : packet_Check p = some (if Pok p then 0 else 1) := by
  unfold packet_Check
  simp only [Same_eq, upto_eq, fields_eq, Option.bind_some]
  split
  · rename_i h
    simp only [decide_eq_true_eq] at h
    split
    · rename_i h2
      simp only [decide_eq_true_eq] at h2
      split
      · rename_i h3
        simp only [decide_eq_true_eq] at h3
        obtain ⟨kd, pa, nu, of, fr, da, fi, se, li⟩ := p
        simp only [packet_bare, Pok] at *
        rcases h with rfl | h | h | h
        · simp [h2, h3]
          split <;> rfl
        · obtain ⟨rfl, h⟩ := h
          simp [h2, h3]
          split <;> simp_all
        · obtain ⟨rfl, h⟩ := h
          simp [h2, h3]
          split <;> simp_all
        · obtain ⟨rfl, h⟩ := h
          simp [h2, h3]
          split <;> simp_all
      · rename_i h3
        simp only [decide_eq_true_eq] at h3
        rw [if_neg]
        unfold Pok; omega
    · rename_i h2
      simp only [decide_eq_true_eq] at h2
      rw [if_neg]
      unfold Pok; omega
  · rename_i h
    simp only [decide_eq_true_eq] at h
    rw [if_neg]
    unfold Pok
    intro hp
    apply h
    obtain ⟨-, -, -, -, h | h | h | h⟩ := hp
    · exact .inl h.1
    · exact .inr (.inl ⟨h.1, h.2.1, h.2.2.1⟩)
    · exact .inr (.inr (.inl ⟨h.1, h.2.2.1, h.2.2.2.1, h.2.2.2.2.1, h.2.2.2.2.2.1⟩))
    · exact .inr (.inr (.inr ⟨h.1, h.2.1, h.2.2.1, h.2.2.2.2.2.2⟩))
theorem Plain_bad {p : api_Packet} (h : ¬ Pok p) : packet_Plain p = some ([], 1) := by
  simp [packet_Plain, Check_eq, h]
theorem Pack_bad {p : api_Packet} (h : ¬ Pok p) : packet_Pack p = some ([], 1) := by
  simp [packet_Pack, Plain_bad h]
theorem cut_eq {l : List UInt8} {a b : Nat} (h : a ≤ b) (h2 : b ≤ l.length) : cut l (a : Int) (b : Int) = some ((l.take b).drop a) := by
  unfold cut
  rw [if_pos ⟨by omega, by omega, by omega⟩]; simp
theorem cut0 {l : List UInt8} {b : Nat} (h : b ≤ l.length) : cut l 0 (b : Int) = some (l.take b) := by
  have := cut_eq (Nat.zero_le b) h
  rw [List.drop_zero] at this
  exact this
theorem Within_eq {a n : Int} (hn : 0 < n) (h2 : n < 4611686018427387904) : ∃ m : Nat, haulierkeep_Within a n = some (m : Int) ∧ (m : Int) < n := by
  have hm : -n < a.tmod n ∧ a.tmod n < n := ⟨Int.neg_lt_of_neg_lt (by have := Int.tmod_lt_of_pos (-a) hn; rw [Int.neg_tmod] at this; omega), Int.tmod_lt_of_pos _ hn⟩
  unfold haulierkeep_Within
  rw [if_neg (by omega), if_pos (by omega)]
  split
  · rw [w64_small (by omega) (by omega)]
    exact ⟨(a.tmod n + n).toNat, by congr 1; omega, by omega⟩
  · exact ⟨(a.tmod n).toNat, by congr 1; omega, by omega⟩
theorem Within_small {a n : Int} (h0 : 0 ≤ a) (h1 : a < n) (h2 : n < 4611686018427387904) : haulierkeep_Within a n = some a := by
  unfold haulierkeep_Within
  rw [if_neg (by omega), if_pos (by omega), Int.tmod_eq_of_lt h0 h1, if_neg (by omega)]
/-- Numbers on the wire. -/
theorem Size_eq (n : Int) : vint_Size n = some (vsize n : Int) := by
  unfold vint_Size vsize
  repeat' split
  all_goals first | rfl | (exfalso; omega)
theorem be_get {n : Nat} : ∀ {s i : Nat}, i < s → (bigE s n)[s - 1 - i]? = some (UInt8.ofNat (n / 256 ^ i))
  | 0, _, h => by omega
  | s + 1, i, h => by
    unfold bigE
    by_cases hi : i = s
    · subst hi
      rw [show i + 1 - 1 - i = 0 by omega]; rfl
    · rw [show s + 1 - 1 - i = (s - 1 - i) + 1 by omega, List.getElem?_cons_succ]
      exact be_get (by omega)
theorem sr64_byte {n : Int} (h0 : 0 ≤ n) {i : Nat} (hi : i ≤ 7) : u8of (sr64 n (8 * (i : Int))) = UInt8.ofNat (n.toNat / 256 ^ i) := by
  obtain ⟨m, rfl⟩ := Int.eq_ofNat_of_zero_le h0
  unfold sr64 u8of
  have e : (8 * (i : Int)).toNat = 8 * i := by omega
  rw [e, Nat.min_eq_left (by omega), Int.fdiv_eq_ediv_of_nonneg _ (by exact_mod_cast Nat.zero_le (2 ^ (8 * i)))]
  have e2 : ((m : Int) / 2 ^ (8 * i)) = ((m / 2 ^ (8 * i) : Nat) : Int) := by push_cast; rfl
  rw [e2, show ((m / 2 ^ (8 * i) : Nat) : Int) % 256 = ((m / 2 ^ (8 * i) % 256 : Nat) : Int) by omega, Int.toNat_natCast, Int.toNat_natCast, Nat.pow_mul, show 2 ^ 8 = 256 by rfl]
  apply UInt8.toNat.inj
  simp
theorem put_loop {n : Int} (h0 : 0 ≤ n) {s : Nat} (hs : s ≤ 8) : ∀ (i : Nat), i ≤ s → ∀ (k : Nat), i < k →
    vint_Put_l0 n (s : Int) k ((bigE s n.toNat).take (s - i)) ((i : Int) - 1) = some (marked (bigE s n.toNat) (vmark s))
  | 0, _, 0, h => by omega
  | 0, hi, k + 1, h => by
    unfold vint_Put_l0
    rw [if_neg (by omega), Nat.sub_zero, List.take_of_length_le (by rw [be_length]; omega)]
    have hl := be_length s n.toNat
    cases hb : bigE s n.toNat with
    | nil =>
      rw [hb] at hl
      simp at hl
      subst hl
      rfl
    | cons c l =>
      rw [hb] at hl
      rw [if_pos (by simp at hl; omega), if_pos ⟨by omega, by simp⟩]
      have hm : vint_mark (s : Int) = some (vmark s) := by
        unfold vint_mark vmark
        repeat' split
        all_goals first | rfl | (exfalso; omega)
      simp only [Int.toNat_zero, List.getElem?_cons_zero, Option.bind_some, hm]
      rw [if_pos ⟨by omega, by simp⟩]
      rfl
  | i + 1, hi, 0, h => by omega
  | i + 1, hi, k + 1, h => by
    unfold vint_Put_l0
    have e : ((i + 1 : Nat) : Int) - 1 = (i : Int) := by omega
    have e8 : w64 (8 * (i : Int)) = 8 * (i : Int) := w64_small (by omega) (by omega)
    rw [e, if_pos (by omega), e8, if_pos (by omega), sr64_byte h0 (by omega)]
    rw [if_pos ⟨by simp [fits, be_length]; omega, by simp [be_length]; omega⟩]
    simp only [Option.bind_some]
    have hg := be_get (n := n.toNat) (show i < s by omega)
    have ht : (bigE s n.toNat).take (s - (i + 1)) ++ [UInt8.ofNat (n.toNat / 256 ^ i)] = (bigE s n.toNat).take (s - i) := by
      rw [show s - i = (s - (i + 1)) + 1 by omega, List.take_add_one, show s - (i + 1) = s - 1 - i by omega, hg]; rfl
    rw [ht, w64_small (by omega) (by omega)]
    exact put_loop h0 hs i (by omega) k (by omega)
theorem Put_eq (n : Int) : vint_Put n = some (vput n) := by
  unfold vint_Put
  rw [Size_eq]
  simp only [Option.bind_some]
  have hs := vsize_le n
  rw [w64_small (by omega) (by omega)]
  rcases vsize_cases n with ⟨h, _⟩ | ⟨h0, _, _⟩
  · rw [h]
    have hp : vput n = [] := List.eq_nil_of_length_eq_zero (by rw [vput_length, h])
    rw [hp]
    rfl
  · have := put_loop h0 hs (vsize n) (Nat.le_refl _) bigN (by unfold bigN; omega)
    rw [Nat.sub_self, List.take_zero] at this
    exact this
theorem concat_loop0 {p : List (List UInt8)} (hp : p.length < 4611686018427387904) : ∀ (k i a : Nat), i ≤ p.length → p.length - i < k → a + (p.drop i).flatten.length < 4611686018427387904 →
    slices_Concat_sbyte_byte_l0 p k (a : Int) (i : Int) = some ((a + (p.drop i).flatten.length : Nat) : Int)
  | 0, i, a, _, h, _ => by omega
  | k + 1, i, a, h, hk, hb => by
    unfold slices_Concat_sbyte_byte_l0
    by_cases hi : i < p.length
    · rw [List.drop_eq_getElem_cons hi, List.flatten_cons, List.length_append] at hb ⊢
      rw [if_pos (by omega)]
      simp only [idx, Int.toNat_natCast, if_pos (show (0 : Int) ≤ (i : Int) by omega), List.getElem?_eq_getElem hi, Option.bind_some]
      rw [w64_small (by omega) (by omega), w64_small (by omega) (by omega), if_neg (by omega)]
      have := concat_loop0 hp k (i + 1) (a + p[i].length) hi (by omega) (by omega)
      rw [show ((a : Int) + (p[i].length : Int)) = ((a + p[i].length : Nat) : Int) by omega, show ((i : Int) + 1) = ((i + 1 : Nat) : Int) by omega, this]
      congr 2; omega
    · rw [if_neg (by omega), List.drop_eq_nil_of_le (by omega)]; simp
theorem concat_loop1 {p : List (List UInt8)} (hp : p.length < 4611686018427387904) : ∀ (k i : Nat) (a : List UInt8), i ≤ p.length → p.length - i < k → (a ++ (p.drop i).flatten).length ≤ 140737488355328 →
    slices_Concat_sbyte_byte_l1 p k a (i : Int) = some (a ++ (p.drop i).flatten)
  | 0, i, a, _, h, _ => by omega
  | k + 1, i, a, h, hk, hb => by
    unfold slices_Concat_sbyte_byte_l1
    by_cases hi : i < p.length
    · rw [List.drop_eq_getElem_cons hi, List.flatten_cons, ← List.append_assoc] at hb ⊢
      rw [if_pos (by omega)]
      simp only [idx, Int.toNat_natCast, if_pos (show (0 : Int) ≤ (i : Int) by omega), List.getElem?_eq_getElem hi, Option.bind_some]
      have hl : a.length + p[i].length ≤ 140737488355328 := by simp only [List.length_append] at hb; omega
      rw [if_pos ⟨by unfold fits; omega, hl⟩, w64_small (by omega) (by omega), show ((i : Int) + 1) = ((i + 1 : Nat) : Int) by omega]
      exact concat_loop1 hp k (i + 1) _ hi (by omega) hb
    · rw [if_neg (by omega), List.drop_eq_nil_of_le (by omega)]; simp
theorem Concat_eq {p : List (List UInt8)} (hp : p.length < 4611686018427387904) (h : p.flatten.length ≤ 140737488351300) : slices_Concat_sbyte_byte p = some p.flatten := by
  unfold slices_Concat_sbyte_byte
  have h0 := concat_loop0 hp bigN 0 0 (Nat.zero_le _) (by unfold bigN; omega) (by simp only [List.drop_zero]; omega)
  have h1 := concat_loop1 hp bigN 0 [] (Nat.zero_le _) (by unfold bigN; omega) (by simp only [List.drop_zero, List.nil_append]; omega)
  simp only [List.drop_zero, Nat.zero_add, List.nil_append] at h0 h1
  rw [show ((0 : Nat) : Int) = 0 from rfl] at h0 h1
  rw [h0]
  simp only [Option.bind_some, slices_Grow_sbyte_byte]
  rw [if_pos ⟨trivial, by omega, by omega⟩]
  exact h1
theorem Span_eq {b : List UInt8} (h : b.length ≤ 1000000000000) : span_Pack b = some (vput (b.length : Int) ++ b) := by
  unfold span_Pack
  rw [Put_eq]
  simp only [Option.bind_some]
  have hl := vput_length (b.length : Int)
  have hs := vsize_le (b.length : Int)
  rw [Concat_eq (by simp) (by simp; omega)]
  simp
/-- A span: its length, then its bytes. -/
def spanL (b : List UInt8) : List UInt8 := vput (b.length : Int) ++ b
theorem u8of_nat {n : Nat} (h : n < 256) : u8of (n : Int) = UInt8.ofNat n := by
  unfold u8of
  congr 1; omega
theorem vput_small {n : Nat} (h : n < 64) : vput (n : Int) = [UInt8.ofNat n] := by
  have hs : vsize (n : Int) = 1 := by unfold vsize; rw [if_neg (by omega), if_pos (by omega)]
  unfold vput
  rw [hs]
  simp [bigE, marked, vmark]
theorem vput_ne {n : Int} (h0 : 0 ≤ n) (h : n ≤ 4611686018427387903) : vput n ≠ [] := fun e => by
  have := vput_length n
  rw [e] at this
  rcases vsize_cases n with ⟨_, h⟩ | ⟨_, _, h⟩ <;> simp at this <;> omega
end Go.Proofs.Ytcfapdamgbbklaa
