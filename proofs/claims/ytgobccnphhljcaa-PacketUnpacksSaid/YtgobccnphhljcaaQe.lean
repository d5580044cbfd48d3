/- What the printed functions compute, in plain Lean: numbers that are read. -/
import Derived.Test.YtgobccnphhljcaaQd
namespace Go.Proofs.Ytgobccnphhljcaa
set_option linter.unusedVariables false

theorem or_byte (a : Nat) (x : UInt8) (ha : a < 18014398509481984) : bit64 .or (sl64 (a : Int) 8) (x.toNat : Int) = ((256 * a + x.toNat : Nat) : Int) := by
  have hx := x.toNat_lt
  have e0 : sl64 (a : Int) 8 = (a : Int) * 256 := by
    unfold sl64
    rw [show ((a : Int) * 2 ^ min (8 : Int).toNat 64) = (a : Int) * 256 from rfl, w64_small (by omega) (by omega)]
  rw [e0]
  have e1 : BitVec.ofInt 64 ((a : Int) * 256) = BitVec.ofNat 64 (256 * a) := by
    rw [show ((a : Int) * 256) = ((256 * a : Nat) : Int) from by omega, BitVec.ofInt_natCast]
  have e2 : BitVec.ofInt 64 (x.toNat : Int) = BitVec.ofNat 64 x.toNat := BitVec.ofInt_natCast ..
  show IntKind.i64.wrap ((BitVec.ofInt 64 ((a : Int) * 256) ||| BitVec.ofInt 64 (x.toNat : Int)).toNat : Int) = _
  rw [e1, e2, BitVec.toNat_or, BitVec.toNat_ofNat, BitVec.toNat_ofNat, Nat.mod_eq_of_lt (by omega), Nat.mod_eq_of_lt (by omega)]
  have h := Nat.two_pow_add_eq_or_of_lt (show x.toNat < 2 ^ 8 by omega) a
  rw [show (2 : Nat) ^ 8 = 256 from rfl] at h
  rw [← h]
  exact w64_small (by omega) (by omega)
theorem vlen_eq (c : UInt8) : sl64 1 ((sr8 c 6).toNat : Int) = (vlen c : Int) := by
  have h : ∀ n : Fin 256, sl64 1 ((sr8 (UInt8.ofNat n.val) 6).toNat : Int) = (vlen (UInt8.ofNat n.val) : Int) := by decide +kernel
  have := h ⟨c.toNat, c.toNat_lt⟩
  simpa using this
theorem vlen_le (c : UInt8) : 1 ≤ vlen c ∧ vlen c ≤ 8 := by
  have h : ∀ n : Fin 256, 1 ≤ vlen (UInt8.ofNat n.val) ∧ vlen (UInt8.ofNat n.val) ≤ 8 := by decide +kernel
  have := h ⟨c.toNat, c.toNat_lt⟩
  simpa using this
theorem and_63 (c : UInt8) : ((c &&& (63 : UInt8)).toNat : Int) = ((c.toNat % 64 : Nat) : Int) := by
  rw [UInt8.toNat_and]
  congr 1
  exact Nat.and_two_pow_sub_one_eq_mod c.toNat 6
theorem take_loop {y : List UInt8} (hy : y.length ≤ 7) {a : Nat} (ha : a < 64) : ∀ (k i : Nat), i ≤ y.length → y.length - i < k →
    vint_Take_l0 y k (unbe a (y.take i) : Int) (i : Int) = some (unbe a y : Int)
  | 0, i, _, h => by omega
  | k + 1, i, h, hk => by
    unfold vint_Take_l0
    by_cases hi : i < y.length
    · rw [if_pos (by omega)]
      simp only [idx, Int.toNat_natCast, if_pos (show (0 : Int) ≤ (i : Int) by omega), List.getElem?_eq_getElem hi, Option.bind_some]
      rw [or_byte _ _ (unbe_small ha (by omega)), ← unbe_snoc a y i y[i] (List.getElem?_eq_getElem hi), w64_small (by omega) (by omega), show ((i : Int) + 1) = ((i + 1 : Nat) : Int) by omega]
      exact take_loop hy ha k (i + 1) hi (by omega)
    · rw [if_neg (by omega), List.take_of_length_le (by omega)]
/-- What is read of a number. -/
def takenL (b : List UInt8) : Int × Int × Bool := match vtake b with
  | none => (0, 0, false)
  | some (n, k) => ((n : Int), (k : Int), true)
theorem Take_eq (b : List UInt8) : vint_Take b = some (takenL b) := by
  unfold vint_Take
  cases b with
  | nil => rfl
  | cons c r =>
    rw [if_neg (by simp; omega)]
    simp only [idx, Option.bind_some, Int.toNat_zero, List.getElem?_cons_zero, if_pos (Int.le_refl 0)]
    rw [vlen_eq]
    have hv := vlen_le c
    unfold takenL
    by_cases h : (c :: r).length < vlen c
    · rw [if_pos (by omega), vtake_short h]
    · rw [if_neg (by omega), vtake_long h]
      have e1 : cut (c :: r) 1 (vlen c : Int) = some (r.take (vlen c - 1)) := by
        have := cut_eq (l := c :: r) (a := 1) (b := vlen c) hv.1 (by omega)
        rw [show ((1 : Nat) : Int) = 1 from rfl] at this
        rw [this]
        congr 1
        obtain ⟨v, hv'⟩ : ∃ v, vlen c = v + 1 := ⟨vlen c - 1, by omega⟩
        rw [hv']; simp
      have e2 : cut (c :: r) 0 (vlen c : Int) = some ((c :: r).take (vlen c)) := by
        have := cut_eq (l := c :: r) (a := 0) (b := vlen c) (Nat.zero_le _) (by omega)
        rw [show ((0 : Nat) : Int) = 0 from rfl] at this
        rw [this, List.drop_zero]
      rw [e1]; repeat rw [Option.bind_some]
      have hl := take_loop (y := r.take (vlen c - 1)) (by rw [List.length_take]; omega) (a := c.toNat % 64) (by omega) bigN 0 (Nat.zero_le _) (by rw [List.length_take]; unfold bigN; omega)
      rw [List.take_zero, show ((0 : Nat) : Int) = 0 from rfl] at hl
      rw [and_63]
      rw [show unbe (c.toNat % 64) [] = c.toNat % 64 from rfl] at hl
      rw [hl]; repeat rw [Option.bind_some]
      rw [Put_eq]; repeat rw [Option.bind_some]
      rw [e2]; repeat rw [Option.bind_some]
      unfold bytes_Equal
      rw [Option.bind_some]
      by_cases he : vput (unbe (c.toNat % 64) (r.take (vlen c - 1)) : Int) = (c :: r).take (vlen c)
      · rw [he, if_pos (by simp), if_pos rfl]
      · rw [if_neg (by simpa using he), if_neg he]
theorem unbe_bigE (n : Nat) : ∀ (k a : Nat), unbe a (bigE k n) = a * 256 ^ k + n % 256 ^ k
  | 0, a => by simp [bigE, unbe, Nat.mod_one]
  | k + 1, a => by
    have h : unbe a (bigE (k + 1) n) = unbe (256 * a + (UInt8.ofNat (n / 256 ^ k)).toNat) (bigE k n) := rfl
    rw [h, unbe_bigE n k, UInt8.toNat_ofNat']
    have h2 : n % 256 ^ (k + 1) = n % 256 ^ k + 256 ^ k * (n / 256 ^ k % 256) := by rw [Nat.pow_succ]; exact Nat.mod_mul
    rw [h2, show 256 ^ (k + 1) = 256 ^ k * 256 from Nat.pow_succ _ _, show (2 : Nat) ^ 8 = 256 from rfl]
    generalize 256 ^ k = q
    generalize n / q % 256 = x
    have h3 : 256 * a * q = a * (q * 256) := by rw [Nat.mul_comm 256 a, Nat.mul_assoc, Nat.mul_comm 256 q]
    rw [Nat.add_mul, h3, Nat.mul_comm x q]
    omega
theorem marks : ∀ v : Fin 64, (UInt8.ofNat v.val ||| 0).toNat = v.val ∧ (UInt8.ofNat v.val ||| 64).toNat = v.val + 64 ∧ (UInt8.ofNat v.val ||| 128).toNat = v.val + 128 ∧ (UInt8.ofNat v.val ||| 192).toNat = v.val + 192 := by decide +kernel
theorem vtake_step {n s : Nat} {m : UInt8} {e : Nat} (hs : vsize (n : Int) = s + 1) (hm : vmark (s + 1) = m) (he : 2 ^ e = s + 1) (hv : n / 256 ^ s < 64) (hc : (UInt8.ofNat (n / 256 ^ s) ||| m).toNat = n / 256 ^ s + 64 * e) (rest : List UInt8) : vtake (vput (n : Int) ++ rest) = some (n, s + 1) := by
  have hp : vput (n : Int) = (UInt8.ofNat (n / 256 ^ s) ||| m) :: bigE s n := by
    unfold vput
    rw [hs, hm]; rfl
  have hl : vlen (UInt8.ofNat (n / 256 ^ s) ||| m) = s + 1 := by
    unfold vlen
    generalize n / 256 ^ s = q at *
    rw [hc, show (q + 64 * e) / 64 = e by omega, he]
  rw [hp, List.cons_append, vtake_long (by rw [hl]; simp [be_length]), hl, hc]
  have e1 : (bigE s n ++ rest).take (s + 1 - 1) = bigE s n := by rw [Nat.add_sub_cancel, List.take_append_of_le_length (by rw [be_length]; omega), List.take_of_length_le (by rw [be_length]; omega)]
  rw [e1, show (n / 256 ^ s + 64 * e) % 64 = n / 256 ^ s by (generalize n / 256 ^ s = q at *; omega), unbe_bigE, Nat.div_add_mod']
  rw [hp, List.take_succ_cons, if_pos]
  rw [List.take_append_of_le_length (by rw [be_length]; omega), List.take_of_length_le (by rw [be_length]; omega)]
theorem vtake_vput {n : Nat} (h : n ≤ 4611686018427387903) (rest : List UInt8) : vtake (vput (n : Int) ++ rest) = some (n, vsize (n : Int)) := by
  rcases vsize_cases (n : Int) with ⟨_, h2⟩ | ⟨_, _, ⟨hs, h2⟩ | ⟨hs, h1, h2⟩ | ⟨hs, h1, h2⟩ | ⟨hs, h1⟩⟩
  · omega
  · rw [hs]
    have hv : n / 256 ^ 0 < 64 := by rw [Nat.pow_zero, Nat.div_one]; omega
    exact vtake_step (m := 0) (e := 0) hs rfl rfl hv (by have := (marks ⟨_, hv⟩).1; simpa using this) rest
  · rw [hs]
    have hv : n / 256 ^ 1 < 64 := by omega
    exact vtake_step (m := 64) (e := 1) hs rfl rfl hv (by have := (marks ⟨_, hv⟩).2.1; simpa using this) rest
  · rw [hs]
    have hv : n / 256 ^ 3 < 64 := by omega
    exact vtake_step (m := 128) (e := 2) hs rfl rfl hv (by have := (marks ⟨_, hv⟩).2.2.1; simpa using this) rest
  · rw [hs]
    have hv : n / 256 ^ 7 < 64 := by omega
    exact vtake_step (m := 192) (e := 3) hs rfl rfl hv (by have := (marks ⟨_, hv⟩).2.2.2; simpa using this) rest
theorem vtake_le {b : List UInt8} {v k : Nat} (h : vtake b = some (v, k)) : k ≤ b.length ∧ 1 ≤ k ∧ k ≤ 8 ∧ v < 4611686018427387904 := by
  cases b with
  | nil => cases h
  | cons c r =>
    by_cases hl : (c :: r).length < vlen c
    · rw [vtake_short hl] at h; cases h
    · rw [vtake_long hl] at h
      split at h
      · injection h with h; injection h with h1 h2
        have hv : vlen c ≤ 8 ∧ 1 ≤ vlen c := by
          have hc := c.toNat_lt
          have hq : c.toNat / 64 = 0 ∨ c.toNat / 64 = 1 ∨ c.toNat / 64 = 2 ∨ c.toNat / 64 = 3 := by omega
          unfold vlen
          rcases hq with e | e | e | e <;> rw [e] <;> decide
        refine ⟨by omega, by omega, by omega, ?_⟩
        have hb := unbe_lt (r.take (vlen c - 1)) (c.toNat % 64)
        have hl2 : (r.take (vlen c - 1)).length ≤ 7 := by simp; omega
        have h2 : 256 ^ (r.take (vlen c - 1)).length ≤ 256 ^ 7 := Nat.pow_le_pow_right (by decide) hl2
        have h3 : (c.toNat % 64 + 1) * 256 ^ (r.take (vlen c - 1)).length ≤ 64 * 256 ^ 7 := Nat.mul_le_mul (by omega) h2
        have h4 : 64 * 256 ^ 7 = 4611686018427387904 := by decide
        omega
      · cases h
end Go.Proofs.Ytgobccnphhljcaa
