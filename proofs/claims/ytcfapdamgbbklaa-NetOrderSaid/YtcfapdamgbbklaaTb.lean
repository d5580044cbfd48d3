/- What the printed functions compute, in plain Lean: the reader of spans, packets as bytes and back. (14) -/
import Derived.Test.YtcfapdamgbbklaaTa
namespace Go.Proofs.Ytcfapdamgbbklaa
set_option linter.unusedVariables false

theorem or_byte (a : Nat) (x : UInt8) (ha : a < 18014398509481984) : bit64 .or (sl64 (a : Int) 8) (x.toNat : Int) = ((256 * a + x.toNat : Nat) : Int) := by
  have hx := x.toNat_lt
  have e0 : sl64 (a : Int) 8 = (a : Int) * 256 := by
    unfold sl64
    rw [show ((a : Int) * 2 ^ min (8 : Int).toNat 64) = (a : Int) * 256 from rfl, w64_small (by omega) (by omega)]
  rw [e0]
  have e1 : BitVec.ofInt 64 ((a : Int) * 256) = BitVec.ofNat 64 (256 * a) := by
    rw [show ((a : Int) * 256) = ((256 * a : Nat) : Int) from by omega, BitVec.ofInt_natCast]
  have e2 : BitVec.ofInt 64 (x.toNat : Int) = BitVec.ofNat 64 x.toNat := BitVec.ofInt_natCast ..
  show IntKind.i64.wrap ((BitVec.ofInt 64 ((a : Int) * 256) ||| BitVec.ofInt 64 (x.toNat : Int)).toNat : Int) = _
  rw [e1, e2, BitVec.toNat_or, BitVec.toNat_ofNat, BitVec.toNat_ofNat, Nat.mod_eq_of_lt (by omega), Nat.mod_eq_of_lt (by omega)]
  have h := Nat.two_pow_add_eq_or_of_lt (show x.toNat < 2 ^ 8 by omega) a
  rw [show (2 : Nat) ^ 8 = 256 from rfl] at h
  rw [← h]
  exact w64_small (by omega) (by omega)
theorem vlen_eq (c : UInt8) : sl64 1 ((sr8 c 6).toNat : Int) = (vlen c : Int) := by
  have h : ∀ n : Fin 256, sl64 1 ((sr8 (UInt8.ofNat n.val) 6).toNat : Int) = (vlen (UInt8.ofNat n.val) : Int) := by decide +kernel
  have := h ⟨c.toNat, c.toNat_lt⟩
  simpa using this
theorem vlen_le (c : UInt8) : 1 ≤ vlen c ∧ vlen c ≤ 8 := by
  have h : ∀ n : Fin 256, 1 ≤ vlen (UInt8.ofNat n.val) ∧ vlen (UInt8.ofNat n.val) ≤ 8 := by decide +kernel
  have := h ⟨c.toNat, c.toNat_lt⟩
  simpa using this
theorem and_63 (c : UInt8) : ((c &&& (63 : UInt8)).toNat : Int) = ((c.toNat % 64 : Nat) : Int) := by
  rw [UInt8.toNat_and]
  congr 1
  exact Nat.and_two_pow_sub_one_eq_mod c.toNat 6
theorem take_loop {y : List UInt8} (hy : y.length ≤ 7) {a : Nat} (ha : a < 64) : ∀ (k i : Nat), i ≤ y.length → y.length - i < k →
    vint_Take_l0 y k (unbe a (y.take i) : Int) (i : Int) = some (unbe a y : Int)
  | 0, i, _, h => by omega
  | k + 1, i, h, hk => by
    unfold vint_Take_l0
    by_cases hi : i < y.length
    · rw [if_pos (by omega)]
      simp only [idx, Int.toNat_natCast, if_pos (show (0 : Int) ≤ (i : Int) by omega), List.getElem?_eq_getElem hi, Option.bind_some]
      rw [or_byte _ _ (unbe_small ha (by omega)), ← unbe_snoc a y i y[i] (List.getElem?_eq_getElem hi), w64_small (by omega) (by omega), show ((i : Int) + 1) = ((i + 1 : Nat) : Int) by omega]
      exact take_loop hy ha k (i + 1) hi (by omega)
    · rw [if_neg (by omega), List.take_of_length_le (by omega)]
/-- What is read of a number. -/
def takenL (b : List UInt8) : Int × Int × Bool := match vtake b with
  | none => (0, 0, false)
  | some (n, k) => ((n : Int), (k : Int), true)
theorem Take_eq (b : List UInt8) : vint_Take b = some (takenL b) := by
  unfold vint_Take
  cases b with
  | nil => rfl
  | cons c r =>
    rw [if_neg (by simp; omega)]
    simp only [idx, Option.bind_some, Int.toNat_zero, List.getElem?_cons_zero, if_pos (Int.le_refl 0)]
    rw [vlen_eq]
    have hv := vlen_le c
    unfold takenL
    by_cases h : (c :: r).length < vlen c
    · rw [if_pos (by omega), vtake_short h]
    · rw [if_neg (by omega), vtake_long h]
      have e1 : cut (c :: r) 1 (vlen c : Int) = some (r.take (vlen c - 1)) := by
        have := cut_eq (l := c :: r) (a := 1) (b := vlen c) hv.1 (by omega)
        rw [show ((1 : Nat) : Int) = 1 from rfl] at this
        rw [this]
        congr 1
        obtain ⟨v, hv'⟩ : ∃ v, vlen c = v + 1 := ⟨vlen c - 1, by omega⟩
        rw [hv']; simp
      have e2 : cut (c :: r) 0 (vlen c : Int) = some ((c :: r).take (vlen c)) := by
        have := cut_eq (l := c :: r) (a := 0) (b := vlen c) (Nat.zero_le _) (by omega)
        rw [show ((0 : Nat) : Int) = 0 from rfl] at this
        rw [this, List.drop_zero]
      rw [e1]; repeat rw [Option.bind_some]
      have hl := take_loop (y := r.take (vlen c - 1)) (by rw [List.length_take]; omega) (a := c.toNat % 64) (by omega) bigN 0 (Nat.zero_le _) (by rw [List.length_take]; unfold bigN; omega)
      rw [List.take_zero, show ((0 : Nat) : Int) = 0 from rfl] at hl
      rw [and_63]
      rw [show unbe (c.toNat % 64) [] = c.toNat % 64 from rfl] at hl
      rw [hl]; repeat rw [Option.bind_some]
      rw [Put_eq]; repeat rw [Option.bind_some]
      rw [e2]; repeat rw [Option.bind_some]
      unfold bytes_Equal
      rw [Option.bind_some]
      by_cases he : vput (unbe (c.toNat % 64) (r.take (vlen c - 1)) : Int) = (c :: r).take (vlen c)
      · rw [he, if_pos (by simp), if_pos rfl]
      · rw [if_neg (by simpa using he), if_neg he]
theorem unbe_bigE (n : Nat) : ∀ (k a : Nat), unbe a (bigE k n) = a * 256 ^ k + n % 256 ^ k
  | 0, a => by simp [bigE, unbe, Nat.mod_one]
  | k + 1, a => by
    have h : unbe a (bigE (k + 1) n) = unbe (256 * a + (UInt8.ofNat (n / 256 ^ k)).toNat) (bigE k n) := rfl
    rw [h, unbe_bigE n k, UInt8.toNat_ofNat']
    have h2 : n % 256 ^ (k + 1) = n % 256 ^ k + 256 ^ k * (n / 256 ^ k % 256) := by rw [Nat.pow_succ]; exact Nat.mod_mul
    rw [h2, show 256 ^ (k + 1) = 256 ^ k * 256 from Nat.pow_succ _ _, show (2 : Nat) ^ 8 = 256 from rfl]
    generalize 256 ^ k = q
    generalize n / q % 256 = x
    have h3 : 256 * a * q = a * (q * 256) := by rw [Nat.mul_comm 256 a, Nat.mul_assoc, Nat.mul_comm 256 q]
    rw [Nat.add_mul, h3, Nat.mul_comm x q]
    omega
theorem marks : ∀ v : Fin 64, (UInt8.ofNat v.val ||| 0).toNat = v.val ∧ (UInt8.ofNat v.val ||| 64).toNat = v.val + 64 ∧ (UInt8.ofNat v.val ||| 128).toNat = v.val + 128 ∧ (UInt8.ofNat v.val ||| 192).toNat = v.val + 192 := by decide +kernel
theorem vtake_step {n s : Nat} {m : UInt8} {e : Nat} (hs : vsize (n : Int) = s + 1) (hm : vmark (s + 1) = m) (he : 2 ^ e = s + 1) (hv : n / 256 ^ s < 64) (hc : (UInt8.ofNat (n / 256 ^ s) ||| m).toNat = n / 256 ^ s + 64 * e) (rest : List UInt8) : vtake (vput (n : Int) ++ rest) = some (n, s + 1) := by
  have hp : vput (n : Int) = (UInt8.ofNat (n / 256 ^ s) ||| m) :: bigE s n := by
    unfold vput
    rw [hs, hm]; rfl
  have hl : vlen (UInt8.ofNat (n / 256 ^ s) ||| m) = s + 1 := by
    unfold vlen
    generalize n / 256 ^ s = q at *
    rw [hc, show (q + 64 * e) / 64 = e by omega, he]
  rw [hp, List.cons_append, vtake_long (by rw [hl]; simp [be_length]), hl, hc]
  have e1 : (bigE s n ++ rest).take (s + 1 - 1) = bigE s n := by rw [Nat.add_sub_cancel, List.take_append_of_le_length (by rw [be_length]; omega), List.take_of_length_le (by rw [be_length]; omega)]
  rw [e1, show (n / 256 ^ s + 64 * e) % 64 = n / 256 ^ s by (generalize n / 256 ^ s = q at *; omega), unbe_bigE, Nat.div_add_mod']
  rw [hp, List.take_succ_cons, if_pos]
  rw [List.take_append_of_le_length (by rw [be_length]; omega), List.take_of_length_le (by rw [be_length]; omega)]
theorem vtake_vput {n : Nat} (h : n ≤ 4611686018427387903) (rest : List UInt8) : vtake (vput (n : Int) ++ rest) = some (n, vsize (n : Int)) := by
  rcases vsize_cases (n : Int) with ⟨_, h2⟩ | ⟨_, _, ⟨hs, h2⟩ | ⟨hs, h1, h2⟩ | ⟨hs, h1, h2⟩ | ⟨hs, h1⟩⟩
  · omega
  · rw [hs]
    have hv : n / 256 ^ 0 < 64 := by rw [Nat.pow_zero, Nat.div_one]; omega
    exact vtake_step (m := 0) (e := 0) hs rfl rfl hv (by have := (marks ⟨_, hv⟩).1; simpa using this) rest
  · rw [hs]
    have hv : n / 256 ^ 1 < 64 := by omega
    exact vtake_step (m := 64) (e := 1) hs rfl rfl hv (by have := (marks ⟨_, hv⟩).2.1; simpa using this) rest
  · rw [hs]
    have hv : n / 256 ^ 3 < 64 := by omega
    exact vtake_step (m := 128) (e := 2) hs rfl rfl hv (by have := (marks ⟨_, hv⟩).2.2.1; simpa using this) rest
  · rw [hs]
    have hv : n / 256 ^ 7 < 64 := by omega
    exact vtake_step (m := 192) (e := 3) hs rfl rfl hv (by have := (marks ⟨_, hv⟩).2.2.2; simpa using this) rest
theorem vtake_le {b : List UInt8} {v k : Nat} (h : vtake b = some (v, k)) : k ≤ b.length ∧ 1 ≤ k ∧ k ≤ 8 ∧ v < 4611686018427387904 := by
  cases b with
  | nil => cases h
  | cons c r =>
    by_cases hl : (c :: r).length < vlen c
    · rw [vtake_short hl] at h; cases h
    · rw [vtake_long hl] at h
      split at h
      · injection h with h; injection h with h1 h2
        have hv : vlen c ≤ 8 ∧ 1 ≤ vlen c := by
          have hc := c.toNat_lt
          have hq : c.toNat / 64 = 0 ∨ c.toNat / 64 = 1 ∨ c.toNat / 64 = 2 ∨ c.toNat / 64 = 3 := by omega
          unfold vlen
          rcases hq with e | e | e | e <;> rw [e] <;> decide
        refine ⟨by omega, by omega, by omega, ?_⟩
        have hb := unbe_lt (r.take (vlen c - 1)) (c.toNat % 64)
        have hl2 : (r.take (vlen c - 1)).length ≤ 7 := by simp; omega
        have h2 : 256 ^ (r.take (vlen c - 1)).length ≤ 256 ^ 7 := Nat.pow_le_pow_right (by decide) hl2
        have h3 : (c.toNat % 64 + 1) * 256 ^ (r.take (vlen c - 1)).length ≤ 64 * 256 ^ 7 := Nat.mul_le_mul (by omega) h2
        have h4 : 64 * 256 ^ 7 = 4611686018427387904 := by decide
        omega
      · cases h
/-- A reader at a place. -/
abbrev rdr (b : List UInt8) (i : Nat) (bad : Bool) : span_Reader := ⟨b, (i : Int), bad⟩
theorem Left_eq {b : List UInt8} {i : Nat} {bad : Bool} (h : b.length ≤ 140737488351300) (hi : i ≤ b.length) : span_Reader_Left (rdr b i bad) = some (((b.length - i : Nat) : Int), rdr b i bad) := by
  unfold span_Reader_Left
  rw [Option.bind_some, w64_small (by show _ ≤ (b.length : Int) - (i : Int); omega) (by show (b.length : Int) - (i : Int) < _; omega)]
  show some ((b.length : Int) - (i : Int), _) = _
  rw [show (b.length : Int) - (i : Int) = ((b.length - i : Nat) : Int) by omega]
theorem cut_rest {b : List UInt8} {i : Nat} (hi : i ≤ b.length) : cut b (i : Int) (b.length : Int) = some (b.drop i) := by
  rw [cut_eq hi (Nat.le_refl _), List.take_length]
/-- A span is read. -/
def bytesL (b : List UInt8) (i : Nat) (bad : Bool) (m : Int) : List UInt8 × span_Reader :=
  if bad = true then ([], rdr b i true) else match vtake (b.drop i) with
  | none => ([], rdr b i true)
  | some (n, k) => if (n : Int) ≤ m ∧ i + k + n ≤ b.length then ((b.drop (i + k)).take n, rdr b (i + k + n) false) else ([], rdr b i true)
theorem Bytes_eq {b : List UInt8} {i : Nat} {bad : Bool} {m : Int} (h : b.length ≤ 140737488351300) (hi : i ≤ b.length) : span_Reader_Bytes (rdr b i bad) m = some (bytesL b i bad m) := by
  unfold span_Reader_Bytes
  rw [show (rdr b i bad).b_ = b from rfl, show (rdr b i bad).at_ = (i : Int) from rfl, show (rdr b i bad).bad_ = bad from rfl, cut_rest hi, Option.bind_some, Take_eq, Option.bind_some]
  unfold bytesL
  cases bad with
  | true =>
    generalize takenL (b.drop i) = q
    obtain ⟨x10, x11, x12⟩ := q
    rfl
  | false =>
    rw [if_neg (by decide)]
    unfold takenL
    cases hv : vtake (b.drop i) with
    | none => rfl
    | some q =>
      obtain ⟨n, k⟩ := q
      obtain ⟨h1, h2, h3, h4⟩ := vtake_le hv
      rw [List.length_drop] at h1
      simp only []
      rw [if_neg (show ¬ false = true by decide), if_pos trivial]
      by_cases hm : m < (n : Int)
      · rw [if_pos hm, Option.bind_some, if_pos rfl, if_neg (by omega)]
      · rw [if_neg hm, Left_eq h hi, Option.bind_some, Option.bind_some]
        simp only []
        rw [w64_small (by omega) (by omega)]
        by_cases hr : i + k + n ≤ b.length
        · rw [if_neg (by simp; omega), if_pos ⟨by omega, hr⟩]
          rw [w64_small (by omega) (by omega), w64_small (by omega) (by omega)]
          rw [show ((i : Int) + (k : Int)) = ((i + k : Nat) : Int) by omega, show (((i + k : Nat) : Int) + (n : Int)) = ((i + k + n : Nat) : Int) by omega, cut_eq (by omega) hr, Option.bind_some]
          unfold bytes_Clone
          rw [if_pos (by simp [lim14]; omega), Option.bind_some]
          congr 2
          rw [List.drop_take]
          congr 1; omega
        · rw [if_pos (by simp; omega), if_neg (by omega)]
theorem bytesL_le (b : List UInt8) (i : Nat) (bad : Bool) (m : Int) : (bytesL b i bad m).1.length ≤ b.length := by
  unfold bytesL
  split
  · simp
  · split
    · simp
    · split
      · simp; omega
      · simp
/-- What is read of a number is as it was put. -/
theorem vtake_sound {b : List UInt8} {n k : Nat} (h : vtake b = some (n, k)) : b = vput (n : Int) ++ b.drop k ∧ k = vsize (n : Int) := by
  cases b with
  | nil => cases h
  | cons c r =>
    by_cases hl : (c :: r).length < vlen c
    · rw [vtake_short hl] at h; cases h
    · rw [vtake_long hl] at h
      split at h
      · rename_i he
        injection h with h; injection h with h1 h2
        subst h1 h2
        refine ⟨?_, ?_⟩
        · rw [he, List.take_append_drop]
        · have := congrArg List.length he
          rw [vput_length, List.length_take] at this
          omega
      · cases h
/-- A byte is read. -/
def byteL (b : List UInt8) (i : Nat) (bad : Bool) : UInt8 × span_Reader :=
  if bad = true then (0, rdr b i true) else match b[i]? with
  | none => (0, rdr b i true)
  | some x => (x, rdr b (i + 1) false)
/-- A number is read. -/
def numL (b : List UInt8) (i : Nat) (bad : Bool) : Int × span_Reader :=
  if bad = true then (0, rdr b i true) else match vtake (b.drop i) with
  | none => (0, rdr b i true)
  | some (n, k) => ((n : Int), rdr b (i + k) false)
theorem Byte_eq {b : List UInt8} {i : Nat} {bad : Bool} (h : b.length ≤ 140737488351300) (hi : i ≤ b.length) : span_Reader_Byte (rdr b i bad) = some (byteL b i bad) := by
  unfold span_Reader_Byte byteL
  cases bad with
  | true => rfl
  | false =>
    rw [if_neg (show ¬ (rdr b i false).bad_ = true from Bool.false_ne_true), if_neg (by decide)]
    show ((span_Reader_Left (rdr b i false)).bind _).bind _ = _
    rw [Left_eq h hi, Option.bind_some]
    simp only []
    rw [Option.bind_some]
    simp only []
    by_cases hl : i < b.length
    · rw [if_neg (by simp; omega), w64_small (n := (i : Int) + 1) (by omega) (by omega), w64_small (by omega) (by omega)]
      rw [show (i : Int) + 1 - 1 = (i : Int) by omega, idx, if_pos (by omega), Int.toNat_natCast, List.getElem?_eq_getElem hl, Option.bind_some]
      rfl
    · rw [if_pos (by simp; omega), List.getElem?_eq_none (by omega)]
theorem Number_eq {b : List UInt8} {i : Nat} {bad : Bool} (h : b.length ≤ 140737488351300) (hi : i ≤ b.length) : span_Reader_Number (rdr b i bad) = some (numL b i bad) := by
  unfold span_Reader_Number numL
  rw [show (rdr b i bad).b_ = b from rfl, show (rdr b i bad).at_ = (i : Int) from rfl, show (rdr b i bad).bad_ = bad from rfl, cut_rest hi, Option.bind_some, Take_eq, Option.bind_some]
  cases bad with
  | true =>
    generalize takenL (b.drop i) = q
    obtain ⟨x10, x11, x12⟩ := q
    rfl
  | false =>
    unfold takenL
    cases hv : vtake (b.drop i) with
    | none => rfl
    | some q =>
      obtain ⟨n, k⟩ := q
      obtain ⟨h1, h2, h3, h4⟩ := vtake_le hv
      rw [List.length_drop] at h1
      simp only []
      rw [if_neg (show ¬ false = true by decide), Option.bind_some]
      simp only []
      rw [if_neg (by decide), if_neg (by decide), w64_small (by omega) (by omega), show (i : Int) + (k : Int) = ((i + k : Nat) : Int) by omega]
/-- A step of a reader: it stands where it may. -/
def Stands (b : List UInt8) (i : Nat) (s : span_Reader) : Prop := ∃ (j : Nat) (bad : Bool), s = rdr b j bad ∧ i ≤ j ∧ j ≤ b.length
theorem byteL_stands {b : List UInt8} {i : Nat} (bad : Bool) (hi : i ≤ b.length) : Stands b i (byteL b i bad).2 := by
  unfold byteL
  split
  · exact ⟨i, true, rfl, Nat.le_refl _, hi⟩
  · split
    · exact ⟨i, true, rfl, Nat.le_refl _, hi⟩
    · rename_i x hx
      exact ⟨i + 1, false, rfl, by omega, (List.getElem?_eq_some_iff.1 hx).1⟩
theorem numL_stands {b : List UInt8} {i : Nat} (bad : Bool) (hi : i ≤ b.length) : Stands b i (numL b i bad).2 := by
  unfold numL
  split
  · exact ⟨i, true, rfl, Nat.le_refl _, hi⟩
  · split
    · exact ⟨i, true, rfl, Nat.le_refl _, hi⟩
    · rename_i n k hv
      obtain ⟨h1, _⟩ := vtake_le hv
      rw [List.length_drop] at h1
      exact ⟨i + k, false, rfl, by omega, by omega⟩
theorem bytesL_stands {b : List UInt8} {i : Nat} (bad : Bool) (m : Int) (hi : i ≤ b.length) : Stands b i (bytesL b i bad m).2 := by
  unfold bytesL
  split
  · exact ⟨i, true, rfl, Nat.le_refl _, hi⟩
  · split
    · exact ⟨i, true, rfl, Nat.le_refl _, hi⟩
    · split
      · rename_i n k hv h
        exact ⟨_, false, rfl, by omega, by omega⟩
      · exact ⟨i, true, rfl, Nat.le_refl _, hi⟩
/-- What was read, where all was well. -/
theorem byteL_good {b : List UInt8} {i j : Nat} {bad : Bool} (h : (byteL b i bad).2 = rdr b j false) : bad = false ∧ j = i + 1 ∧ b.drop i = (byteL b i bad).1 :: b.drop j := by
  unfold byteL at h ⊢
  cases bad with
  | true => simp at h
  | false =>
    simp only [Bool.false_eq_true, if_false] at h ⊢
    cases hx : b[i]? with
    | none => rw [hx] at h; simp at h
    | some x =>
      rw [hx] at h
      simp only [rdr, span_Reader.mk.injEq] at h
      obtain ⟨hl, he⟩ := List.getElem?_eq_some_iff.1 hx
      obtain rfl : j = i + 1 := by omega
      exact ⟨trivial, rfl, by rw [← he]; exact List.drop_eq_getElem_cons hl⟩
theorem numL_good {b : List UInt8} {i j : Nat} {bad : Bool} (h : (numL b i bad).2 = rdr b j false) : bad = false ∧ b.drop i = vput (numL b i bad).1 ++ b.drop j := by
  unfold numL at h ⊢
  cases bad with
  | true => simp at h
  | false =>
    simp only [Bool.false_eq_true, if_false] at h ⊢
    cases hv : vtake (b.drop i) with
    | none => rw [hv] at h; simp at h
    | some q =>
      obtain ⟨n, k⟩ := q
      rw [hv] at h
      simp only [rdr, span_Reader.mk.injEq] at h
      obtain rfl : j = i + k := by omega
      refine ⟨trivial, ?_⟩
      have := (vtake_sound hv).1
      rw [List.drop_drop] at this
      exact this
theorem bytesL_good {b : List UInt8} {i j : Nat} {bad : Bool} {m : Int} (hi : i ≤ b.length) (h : (bytesL b i bad m).2 = rdr b j false) : bad = false ∧ b.drop i = spanL (bytesL b i bad m).1 ++ b.drop j := by
  unfold bytesL at h ⊢
  cases bad with
  | true => simp at h
  | false =>
    simp only [Bool.false_eq_true, if_false] at h ⊢
    cases hv : vtake (b.drop i) with
    | none => rw [hv] at h; simp at h
    | some q =>
      obtain ⟨n, k⟩ := q
      rw [hv] at h
      simp only [] at h ⊢
      split at h
      · rename_i hc
        simp only [rdr, span_Reader.mk.injEq] at h
        obtain rfl : j = i + k + n := by omega
        refine ⟨trivial, ?_⟩
        rw [if_pos hc]
        simp only []
        have h1 := (vtake_sound hv).1
        rw [List.drop_drop] at h1
        rw [h1]
        unfold spanL
        have hl : ((b.drop (i + k)).take n).length = n := by rw [List.length_take, List.length_drop]; omega
        have e2 : b.drop (i + k + n) = (b.drop (i + k)).drop n := by rw [List.drop_drop]
        rw [hl, List.append_assoc, e2, List.take_append_drop]
      · simp at h
theorem spanL_length (b : List UInt8) : (spanL b).length = vsize (b.length : Int) + b.length := by
  unfold spanL; rw [List.length_append, vput_length]
/-- What stands there is read. -/
theorem byteL_cons {b r : List UInt8} {i : Nat} {x : UInt8} (h : b.drop i = x :: r) : byteL b i false = (x, rdr b (i + 1) false) ∧ i + 1 ≤ b.length ∧ b.drop (i + 1) = r := by
  have hl := congrArg List.length h
  rw [List.length_drop, List.length_cons] at hl
  have hx : b[i]? = some x := by
    have := congrArg (·[0]?) h
    simpa [List.getElem?_drop] using this
  unfold byteL
  rw [hx]
  refine ⟨rfl, by omega, ?_⟩
  rw [← List.drop_drop, h]; rfl
theorem numL_put {b r : List UInt8} {i : Nat} {n : Int} (h0 : 0 ≤ n) (h1 : n ≤ 4611686018427387903) (h : b.drop i = vput n ++ r) : numL b i false = (n, rdr b (i + vsize n) false) ∧ i + vsize n ≤ b.length ∧ b.drop (i + vsize n) = r := by
  obtain ⟨m, rfl⟩ := Int.eq_ofNat_of_zero_le h0
  have hl := congrArg List.length h
  have hpos : 1 ≤ vsize (m : Int) := by rcases vsize_cases (m : Int) with ⟨_, h⟩ | ⟨_, _, h⟩ <;> omega
  rw [List.length_drop, List.length_append, vput_length] at hl
  unfold numL
  rw [h, vtake_vput (by omega)]
  refine ⟨rfl, by omega, ?_⟩
  rw [← List.drop_drop, h, List.drop_append_of_le_length (by rw [vput_length]; omega), List.drop_of_length_le (by rw [vput_length]; omega), List.nil_append]
theorem bytesL_put {b r x : List UInt8} {i : Nat} {m : Int} (hx : (x.length : Int) ≤ m) (hx2 : x.length ≤ 1000000) (h : b.drop i = spanL x ++ r) : bytesL b i false m = (x, rdr b (i + (spanL x).length) false) ∧ i + (spanL x).length ≤ b.length ∧ b.drop (i + (spanL x).length) = r := by
  have hl := congrArg List.length h
  have hsl := spanL_length x
  have hpos : 1 ≤ vsize (x.length : Int) := by rcases vsize_cases (x.length : Int) with ⟨_, h⟩ | ⟨_, _, h⟩ <;> omega
  rw [List.length_drop, List.length_append] at hl
  have hd : b.drop (i + (spanL x).length) = r := by rw [← List.drop_drop, h, List.drop_left]
  refine ⟨?_, by omega, hd⟩
  unfold bytesL
  have h2 := h
  unfold spanL at h2
  rw [List.append_assoc] at h2
  rw [h2, vtake_vput (by omega)]
  simp only [Bool.false_eq_true, if_false]
  rw [if_pos ⟨hx, by omega⟩]
  have e : (b.drop (i + vsize (x.length : Int))).take x.length = x := by
    rw [← List.drop_drop, h2, List.drop_append_of_le_length (by rw [vput_length]; omega), List.drop_of_length_le (by rw [vput_length]; omega), List.nil_append, List.take_left]
  rw [e, hsl, Nat.add_assoc]
theorem Bad_eq (b : List UInt8) (i : Nat) (bad : Bool) : span_Reader_Bad (rdr b i bad) = some (bad, rdr b i bad) := rfl
abbrev pk0 : api_Packet := ⟨0, 0, 0, 0, 0, [], false, 0, 0⟩
/-- What stands behind a packet's head. -/
def pkTail (p : api_Packet) : List UInt8 :=
  if p.Kind = 2 then vput p.Of else if p.Kind = 3 then vput p.From ++ (spanL p.Data ++ [if p.Fin = true then 1 else 0]) else if p.Kind = 4 then vput p.Of ++ (vput p.Seen ++ vput p.Limit) else []
/-- A packet's bytes. -/
def pkL (p : api_Packet) : List UInt8 := u8of p.Kind :: (vput p.Path ++ (vput p.Number ++ pkTail p))
theorem pkTail_length {p : api_Packet} (h : p.Data.length ≤ 1000) : (pkTail p).length ≤ 1040 := by
  unfold pkTail
  have h1 := vsize_le p.Of
  have h2 := vsize_le p.From
  have h3 := vsize_le p.Seen
  have h4 := vsize_le p.Limit
  have h5 := vsize_le (p.Data.length : Int)
  repeat' split
  all_goals simp only [List.length_append, vput_length, spanL_length, List.length_singleton, List.length_nil]
  all_goals omega
theorem pkL_length {p : api_Packet} (h : p.Data.length ≤ 1000) : (pkL p).length ≤ 1100 := by
  unfold pkL
  have h0 := pkTail_length h
  have h1 := vsize_le p.Path
  have h2 := vsize_le p.Number
  simp only [List.length_cons, List.length_append, vput_length]
  omega
theorem Pok.data {p : api_Packet} (h : Pok p) : p.Data.length ≤ 64 := by
  obtain ⟨-, -, -, -, h | h | h | h⟩ := h
  · rw [h.2.2.2.1]; simp
  · rw [h.2.2.2.2.1]; simp
  · exact h.2.2.2.2.1
  · rw [h.2.2.2.2.1]; simp
theorem Plain_ok {p : api_Packet} (h : Pok p) : packet_Plain p = some (pkL p, 0) := by
  have hd := h.data
  unfold packet_Plain
  rw [Check_eq, if_pos h, Option.bind_some, if_neg (by decide), Put_eq, Option.bind_some, Put_eq, Option.bind_some, Option.bind_some]
  have h1 := vsize_le p.Path
  have h2 := vsize_le p.Number
  have h3 := vsize_le p.Of
  have h4 := vsize_le p.From
  have h5 := vsize_le p.Seen
  have h6 := vsize_le p.Limit
  have h7 := vsize_le (p.Data.length : Int)
  have hfl : ([[u8of p.Kind], vput p.Path, vput p.Number] : List (List UInt8)).flatten = u8of p.Kind :: (vput p.Path ++ vput p.Number) := by simp
  have hl : (u8of p.Kind :: (vput p.Path ++ vput p.Number)).length ≤ 17 := by simp only [List.length_cons, List.length_append, vput_length]; omega
  rw [Concat_eq (by simp) (by rw [hfl]; omega), hfl, Option.bind_some]
  unfold pkL pkTail
  by_cases k2 : p.Kind = 2
  · rw [if_pos k2, if_pos k2, Put_eq, Option.bind_some, if_pos ⟨by unfold fits; rw [vput_length]; omega, by rw [vput_length]; omega⟩]
    simp only [List.cons_append, List.append_assoc]
  · rw [if_neg k2, if_neg k2]
    by_cases k3 : p.Kind = 3
    · rw [if_pos k3, if_pos k3, Put_eq, Option.bind_some, Span_eq (by omega), Option.bind_some]
      have hsl := spanL_length p.Data
      rw [show vput (p.Data.length : Int) ++ p.Data = spanL p.Data from rfl]
      have hfl2 : ([u8of p.Kind :: (vput p.Path ++ vput p.Number), vput p.From, spanL p.Data] : List (List UInt8)).flatten = u8of p.Kind :: (vput p.Path ++ (vput p.Number ++ (vput p.From ++ spanL p.Data))) := by simp
      have hl2 : (u8of p.Kind :: (vput p.Path ++ (vput p.Number ++ (vput p.From ++ spanL p.Data)))).length ≤ 1000 := by simp only [List.length_cons, List.length_append, vput_length]; omega
      rw [Concat_eq (by simp) (by rw [hfl2]; omega), hfl2, Option.bind_some]
      have ht : packet_truth p.Fin = some (if p.Fin = true then 1 else 0) := by unfold packet_truth; split <;> rfl
      rw [ht, Option.bind_some, if_pos ⟨by unfold fits; rw [List.length_singleton]; omega, by rw [List.length_singleton]; omega⟩]
      simp only [List.cons_append, List.append_assoc]
    · rw [if_neg k3, if_neg k3]
      by_cases k4 : p.Kind = 4
      · rw [if_pos k4, if_pos k4, Put_eq, Option.bind_some, Put_eq, Option.bind_some, Put_eq, Option.bind_some]
        have hfl2 : ([u8of p.Kind :: (vput p.Path ++ vput p.Number), vput p.Of, vput p.Seen, vput p.Limit] : List (List UInt8)).flatten = u8of p.Kind :: (vput p.Path ++ (vput p.Number ++ (vput p.Of ++ (vput p.Seen ++ vput p.Limit)))) := by simp
        rw [Concat_eq (by simp) (by rw [hfl2]; simp only [List.length_cons, List.length_append, vput_length]; omega), hfl2, Option.bind_some]
      · rw [if_neg k4, if_neg k4, List.append_nil]
theorem Pack_ok {p : api_Packet} (h : Pok p) : packet_Pack p = some (sealL (pkL p), 0) := by
  have := pkL_length (p := p) (by have := h.data; omega)
  unfold packet_Pack sum_Seal
  rw [Plain_ok h, Option.bind_some]
  simp only []
  rw [if_neg (by decide), if_pos (by simp [lim14]; omega)]
  rfl
/-- A packet that stands there is read. -/
theorem Take_ok {b r : List UInt8} {i : Nat} {p : api_Packet} (h : b.length ≤ 140737488351300) (hi : i ≤ b.length) (hp : Pok p) (hb : b.drop i = pkL p ++ r) : packet_Take (rdr b i false) = some (p, true, rdr b (i + (pkL p).length) false) ∧ i + (pkL p).length ≤ b.length ∧ b.drop (i + (pkL p).length) = r := by
  have hl := congrArg List.length hb
  rw [List.length_drop, List.length_append] at hl
  have hpl : 1 ≤ (pkL p).length := by unfold pkL; simp
  refine ⟨?_, by omega, by rw [← List.drop_drop, hb, List.drop_left]⟩
  obtain ⟨kd, pa, nu, of, fr, da, fi, se, li⟩ := p
  have hp' := hp
  obtain ⟨hp1, hp2, hp3, hp4, hp5⟩ := hp'
  unfold pkL at hb hpl ⊢
  simp only [List.cons_append, List.append_assoc] at hb hpl hp1 hp2 hp3 hp4 hp5 ⊢
  obtain ⟨q1, q2, q3⟩ := byteL_cons hb
  obtain ⟨q4, q5, q6⟩ := numL_put (n := pa) (by omega) (by omega) q3
  obtain ⟨q7, q8, q9⟩ := numL_put (n := nu) (by omega) (by omega) q6
  unfold packet_Take
  rw [Byte_eq h hi, q1, Option.bind_some]
  simp only []
  rw [Number_eq h q2, q4, Option.bind_some]
  simp only []
  rw [Number_eq h q5, q7, Option.bind_some]
  simp only []
  have hu : ((u8of kd).toNat : Int) = kd := by
    unfold u8of
    rw [UInt8.toNat_ofNat']
    omega
  rw [hu]
  unfold pkTail at q9 ⊢
  simp only [List.length_cons, List.length_append, vput_length]
  rcases hp5 with ⟨rfl, rfl, rfl, rfl, rfl, rfl, rfl⟩ | ⟨rfl, h1, h2, rfl, rfl, rfl, rfl, rfl⟩ | ⟨rfl, rfl, h1, h2, h3, h4, rfl, rfl⟩ | ⟨rfl, h1, h2, rfl, rfl, rfl, h3, h4, h5, h6⟩
  · rw [if_neg (by decide), if_neg (by decide), if_neg (by decide), Bad_eq, Option.bind_some]
    simp only []
    rw [if_neg (by decide), Check_eq, if_pos hp, Option.bind_some, if_neg (by decide)]
    congr 4
    simp
    omega
  · simp only [if_pos] at q9
    rw [if_pos rfl, if_pos rfl]
    obtain ⟨q10, q11, q12⟩ := numL_put (n := of) (by omega) (by omega) q9
    rw [Number_eq h q8, q10, Option.bind_some]
    simp only []
    rw [Bad_eq, Option.bind_some]
    simp only []
    rw [if_neg (by decide), Check_eq, if_pos hp, Option.bind_some, if_neg (by decide), vput_length]
    congr 4
    omega
  · rw [if_neg (by simp), if_pos rfl] at q9
    simp only [List.append_assoc] at q9
    rw [if_neg (by decide), if_pos rfl]
    obtain ⟨q10, q11, q12⟩ := numL_put (n := fr) (by omega) (by omega) q9
    obtain ⟨q13, q14, q15⟩ := bytesL_put (m := 64) (by omega) (by omega) q12
    obtain ⟨q16, q17, q18⟩ := byteL_cons q15
    rw [Number_eq h q8, q10, Option.bind_some]
    simp only []
    rw [Bytes_eq h q11, q13, Option.bind_some]
    simp only []
    rw [Byte_eq h q14, q16, Option.bind_some]
    simp only []
    have hf1 : ¬ (1 : Int) < ((if fi = true then 1 else 0 : UInt8).toNat : Int) := by cases fi <;> decide
    have hf2 : decide (((if fi = true then 1 else 0 : UInt8).toNat : Int) = 1) = fi := by cases fi <;> decide
    rw [if_neg hf1, Bad_eq, Option.bind_some]
    simp only []
    rw [if_neg (by decide), hf2, Check_eq, if_pos hp, Option.bind_some, if_neg (by decide)]
    rw [if_neg (by decide), if_pos trivial]
    simp only [List.length_append, vput_length, List.length_singleton]
    congr 4
    omega
  · rw [if_neg (by simp), if_neg (by simp), if_pos rfl] at q9
    simp only [List.append_assoc] at q9
    rw [if_neg (by decide), if_neg (by decide), if_pos rfl]
    obtain ⟨q10, q11, q12⟩ := numL_put (n := of) (by omega) (by omega) q9
    obtain ⟨q13, q14, q15⟩ := numL_put (n := se) (by omega) (by omega) q12
    obtain ⟨q16, q17, q18⟩ := numL_put (n := li) (by omega) (by omega) q15
    rw [Number_eq h q8, q10, Option.bind_some]
    simp only []
    rw [Number_eq h q11, q13, Option.bind_some]
    simp only []
    rw [Number_eq h q14, q16, Option.bind_some]
    simp only []
    rw [Bad_eq, Option.bind_some]
    simp only []
    rw [if_neg (by decide), Check_eq, if_pos hp, Option.bind_some, if_neg (by decide)]
    rw [if_neg (by decide), if_neg (by decide), if_pos trivial]
    simp only [List.length_append, vput_length]
    congr 4
    omega
theorem u8_back (x : UInt8) : u8of (x.toNat : Int) = x := by
  unfold u8of
  have := x.toNat_lt
  apply UInt8.toNat.inj
  rw [UInt8.toNat_ofNat']
  omega
/-- What is read is a packet that stands there, or none. -/
theorem Take_any {b : List UInt8} {i : Nat} (h : b.length ≤ 140737488351300) (hi : i ≤ b.length) : ∃ p ok s, packet_Take (rdr b i false) = some (p, ok, s) ∧ Stands b i s ∧
    ((ok = false ∧ p = pk0) ∨ (ok = true ∧ Pok p ∧ b.drop i = pkL p ++ b.drop (i + (pkL p).length) ∧ s = rdr b (i + (pkL p).length) false)) := by
  unfold packet_Take
  rw [Byte_eq h hi, Option.bind_some]
  obtain ⟨j1, b1, e1, g1, g1'⟩ := byteL_stands (b := b) (i := i) false hi
  have k1 := fun j => byteL_good (b := b) (i := i) (j := j) (bad := false)
  generalize byteL b i false = q at *
  obtain ⟨x1, s1⟩ := q
  simp only [] at e1 k1 ⊢
  subst e1
  rw [Number_eq h g1', Option.bind_some]
  obtain ⟨j2, b2, e2, g2, g2'⟩ := numL_stands (b := b) (i := j1) b1 g1'
  have k2 := fun j => numL_good (b := b) (i := j1) (j := j) (bad := b1)
  generalize numL b j1 b1 = q at *
  obtain ⟨x2, s2⟩ := q
  simp only [] at e2 k2 ⊢
  subst e2
  rw [Number_eq h g2', Option.bind_some]
  obtain ⟨j3, b3, e3, g3, g3'⟩ := numL_stands (b := b) (i := j2) b2 g2'
  have k3 := fun j => numL_good (b := b) (i := j2) (j := j) (bad := b2)
  generalize numL b j2 b2 = q at *
  obtain ⟨x3, s3⟩ := q
  simp only [] at e3 k3 ⊢
  subst e3
  have head : b3 = false → b.drop i = x1 :: (vput x2 ++ (vput x3 ++ b.drop j3)) := fun e => by
    subst e
    obtain ⟨rfl, h3⟩ := k3 j3 rfl
    obtain ⟨rfl, h2⟩ := k2 j2 rfl
    obtain ⟨_, _, h1⟩ := k1 j1 rfl
    rw [h1, h2, h3]
  have fin : ∀ (p : api_Packet) (j : Nat) (r : List UInt8), i ≤ j → j ≤ b.length → u8of p.Kind = x1 → p.Path = x2 → p.Number = x3 → b3 = false → b.drop j3 = pkTail p ++ b.drop j → b.drop i = pkL p ++ b.drop (i + (pkL p).length) ∧ rdr b j false = rdr b (i + (pkL p).length) false := fun p j r h1 h2 a1 a2 a3 hb3 htl => by
    have h0 := head hb3
    have e : b.drop i = pkL p ++ b.drop j := by
      rw [h0, htl]
      unfold pkL
      rw [a1, a2, a3]
      simp only [List.cons_append, List.append_assoc]
    have hl := congrArg List.length e
    rw [List.length_drop, List.length_append, List.length_drop] at hl
    have ej : j = i + (pkL p).length := by omega
    rw [← ej]
    exact ⟨e, rfl⟩
  have hk : u8of (x1.toNat : Int) = x1 := u8_back x1
  by_cases c2 : (x1.toNat : Int) = 2
  · rw [if_pos c2, Number_eq h g3', Option.bind_some]
    obtain ⟨j4, b4, e4, g4, g4'⟩ := numL_stands (b := b) (i := j3) b3 g3'
    have k4 := fun j => numL_good (b := b) (i := j3) (j := j) (bad := b3)
    generalize numL b j3 b3 = q at *
    obtain ⟨x4, s4⟩ := q
    simp only [] at e4 k4 ⊢
    subst e4
    rw [Bad_eq, Option.bind_some]
    simp only []
    have st : Stands b i (rdr b j4 b4) := ⟨j4, b4, rfl, by omega, g4'⟩
    cases b4 with
    | true => exact ⟨_, _, _, rfl, st, .inl ⟨rfl, rfl⟩⟩
    | false =>
      rw [if_neg (by decide), Check_eq, Option.bind_some]
      by_cases hp : Pok ⟨(x1.toNat : Int), x2, x3, x4, 0, [], false, 0, 0⟩
      · rw [if_pos hp, if_neg (by decide)]
        obtain ⟨hb3, h4⟩ := k4 j4 rfl
        obtain ⟨f1, f2⟩ := fin ⟨(x1.toNat : Int), x2, x3, x4, 0, [], false, 0, 0⟩ j4 [] (by omega) g4' hk rfl rfl hb3 (by unfold pkTail; rw [if_pos c2]; exact h4)
        exact ⟨_, _, _, rfl, st, .inr ⟨rfl, hp, f1, f2⟩⟩
      · rw [if_neg hp, if_pos (by decide)]
        exact ⟨_, _, _, rfl, st, .inl ⟨rfl, rfl⟩⟩
  rw [if_neg c2]
  by_cases c3 : (x1.toNat : Int) = 3
  · rw [if_pos c3, Number_eq h g3', Option.bind_some]
    obtain ⟨j4, b4, e4, g4, g4'⟩ := numL_stands (b := b) (i := j3) b3 g3'
    have k4 := fun j => numL_good (b := b) (i := j3) (j := j) (bad := b3)
    generalize numL b j3 b3 = q at *
    obtain ⟨x4, s4⟩ := q
    simp only [] at e4 k4 ⊢
    subst e4
    rw [Bytes_eq h g4', Option.bind_some]
    obtain ⟨j5, b5, e5, g5, g5'⟩ := bytesL_stands (b := b) (i := j4) b4 64 g4'
    have k5 := fun j => bytesL_good (b := b) (i := j4) (j := j) (bad := b4) (m := 64) g4'
    generalize bytesL b j4 b4 64 = q at *
    obtain ⟨x5, s5⟩ := q
    simp only [] at e5 k5 ⊢
    subst e5
    rw [Byte_eq h g5', Option.bind_some]
    obtain ⟨j6, b6, e6, g6, g6'⟩ := byteL_stands (b := b) (i := j5) b5 g5'
    have k6 := fun j => byteL_good (b := b) (i := j5) (j := j) (bad := b5)
    generalize byteL b j5 b5 = q at *
    obtain ⟨x6, s6⟩ := q
    simp only [] at e6 k6 ⊢
    subst e6
    have st : Stands b i (rdr b j6 b6) := ⟨j6, b6, rfl, by omega, g6'⟩
    by_cases c6 : 1 < (x6.toNat : Int)
    · rw [if_pos c6]
      exact ⟨_, _, _, rfl, st, .inl ⟨rfl, rfl⟩⟩
    rw [if_neg c6, Bad_eq, Option.bind_some]
    simp only []
    cases b6 with
    | true => exact ⟨_, _, _, rfl, st, .inl ⟨rfl, rfl⟩⟩
    | false =>
      rw [if_neg (by decide), Check_eq, Option.bind_some]
      by_cases hp : Pok ⟨(x1.toNat : Int), x2, x3, 0, x4, x5, decide ((x6.toNat : Int) = 1), 0, 0⟩
      · rw [if_pos hp, if_neg (by decide)]
        obtain ⟨hb5, _, h6⟩ := k6 j6 rfl
        subst hb5
        obtain ⟨hb4, h5⟩ := k5 j5 rfl
        subst hb4
        obtain ⟨hb3, h4⟩ := k4 j4 rfl
        have ex : (if decide ((x6.toNat : Int) = 1) = true then 1 else 0 : UInt8) = x6 := by
          by_cases c : (x6.toNat : Int) = 1
          · rw [if_pos (by simpa using c)]; exact UInt8.toNat.inj (show 1 = x6.toNat by omega)
          · rw [if_neg (by simpa using c)]; exact UInt8.toNat.inj (show 0 = x6.toNat by omega)
        obtain ⟨f1, f2⟩ := fin ⟨(x1.toNat : Int), x2, x3, 0, x4, x5, decide ((x6.toNat : Int) = 1), 0, 0⟩ j6 [] (by omega) g6' hk rfl rfl hb3 (by
          unfold pkTail
          simp only []
          rw [if_neg c2, if_pos c3, ex, h4, h5, h6]
          simp only [List.append_assoc, List.singleton_append])
        exact ⟨_, _, _, rfl, st, .inr ⟨rfl, hp, f1, f2⟩⟩
      · rw [if_neg hp, if_pos (by decide)]
        exact ⟨_, _, _, rfl, st, .inl ⟨rfl, rfl⟩⟩
  rw [if_neg c3]
  by_cases c4 : (x1.toNat : Int) = 4
  · rw [if_pos c4, Number_eq h g3', Option.bind_some]
    obtain ⟨j4, b4, e4, g4, g4'⟩ := numL_stands (b := b) (i := j3) b3 g3'
    have k4 := fun j => numL_good (b := b) (i := j3) (j := j) (bad := b3)
    generalize numL b j3 b3 = q at *
    obtain ⟨x4, s4⟩ := q
    simp only [] at e4 k4 ⊢
    subst e4
    rw [Number_eq h g4', Option.bind_some]
    obtain ⟨j5, b5, e5, g5, g5'⟩ := numL_stands (b := b) (i := j4) b4 g4'
    have k5 := fun j => numL_good (b := b) (i := j4) (j := j) (bad := b4)
    generalize numL b j4 b4 = q at *
    obtain ⟨x5, s5⟩ := q
    simp only [] at e5 k5 ⊢
    subst e5
    rw [Number_eq h g5', Option.bind_some]
    obtain ⟨j6, b6, e6, g6, g6'⟩ := numL_stands (b := b) (i := j5) b5 g5'
    have k6 := fun j => numL_good (b := b) (i := j5) (j := j) (bad := b5)
    generalize numL b j5 b5 = q at *
    obtain ⟨x6, s6⟩ := q
    simp only [] at e6 k6 ⊢
    subst e6
    rw [Bad_eq, Option.bind_some]
    simp only []
    have st : Stands b i (rdr b j6 b6) := ⟨j6, b6, rfl, by omega, g6'⟩
    cases b6 with
    | true => exact ⟨_, _, _, rfl, st, .inl ⟨rfl, rfl⟩⟩
    | false =>
      rw [if_neg (by decide), Check_eq, Option.bind_some]
      by_cases hp : Pok ⟨(x1.toNat : Int), x2, x3, x4, 0, [], false, x5, x6⟩
      · rw [if_pos hp, if_neg (by decide)]
        obtain ⟨hb5, h6⟩ := k6 j6 rfl
        subst hb5
        obtain ⟨hb4, h5⟩ := k5 j5 rfl
        subst hb4
        obtain ⟨hb3, h4⟩ := k4 j4 rfl
        obtain ⟨f1, f2⟩ := fin ⟨(x1.toNat : Int), x2, x3, x4, 0, [], false, x5, x6⟩ j6 [] (by omega) g6' hk rfl rfl hb3 (by
          unfold pkTail
          simp only []
          rw [if_neg c2, if_neg c3, if_pos c4, h4, h5, h6]
          simp only [List.append_assoc])
        exact ⟨_, _, _, rfl, st, .inr ⟨rfl, hp, f1, f2⟩⟩
      · rw [if_neg hp, if_pos (by decide)]
        exact ⟨_, _, _, rfl, st, .inl ⟨rfl, rfl⟩⟩
  rw [if_neg c4, Bad_eq, Option.bind_some]
  simp only []
  have st : Stands b i (rdr b j3 b3) := ⟨j3, b3, rfl, by omega, g3'⟩
  cases b3 with
  | true => exact ⟨_, _, _, rfl, st, .inl ⟨rfl, rfl⟩⟩
  | false =>
    rw [if_neg (by decide), Check_eq, Option.bind_some]
    by_cases hp : Pok ⟨(x1.toNat : Int), x2, x3, 0, 0, [], false, 0, 0⟩
    · rw [if_pos hp, if_neg (by decide)]
      obtain ⟨f1, f2⟩ := fin ⟨(x1.toNat : Int), x2, x3, 0, 0, [], false, 0, 0⟩ j3 [] (by omega) g3' hk rfl rfl rfl (by
        unfold pkTail
        simp only []
        rw [if_neg c2, if_neg c3, if_neg c4, List.nil_append])
      exact ⟨_, _, _, rfl, st, .inr ⟨rfl, hp, f1, f2⟩⟩
    · rw [if_neg hp, if_pos (by decide)]
      exact ⟨_, _, _, rfl, st, .inl ⟨rfl, rfl⟩⟩
theorem New_eq {b : List UInt8} (h : b.length ≤ 140737488351300) : span_New b = some (rdr b 0 false) := by
  unfold span_New bytes_Clone
  rw [if_pos (by simp [lim14]; omega)]; rfl
/-- Packets are told apart by their bytes. -/
theorem pkL_inj {p q : api_Packet} {r s : List UInt8} (hp : Pok p) (hq : Pok q) (h : pkL p ++ r = pkL q ++ s) (hl : (pkL p ++ r).length ≤ 140737488351300) : p = q ∧ r = s := by
  have h1 := Take_ok (b := pkL p ++ r) (i := 0) (p := p) (r := r) hl (Nat.zero_le _) hp rfl
  have h2 := Take_ok (b := pkL p ++ r) (i := 0) (p := q) (r := s) hl (Nat.zero_le _) hq h
  have h3 := h1.1
  rw [h2.1] at h3
  have e : q = p := by injection h3 with h3; exact congrArg Prod.fst h3
  subst e
  exact ⟨rfl, List.append_cancel_left h⟩
/-- The bytes of packets. -/
def pksL (l : List api_Packet) : List UInt8 := (l.map pkL).flatten
theorem pksL_snoc (l : List api_Packet) (p : api_Packet) : pksL (l ++ [p]) = pksL l ++ pkL p := by simp [pksL]
theorem pksL_drop {l : List api_Packet} {i : Nat} (h : i < l.length) : pksL (l.drop i) = pkL l[i] ++ pksL (l.drop (i + 1)) := by
  unfold pksL
  rw [List.drop_eq_getElem_cons h, List.map_cons, List.flatten_cons]
theorem Unpack_ok {p : api_Packet} (h : Pok p) : packet_Unpack (sealL (pkL p)) = some (p, 0) := by
  have hl := pkL_length (p := p) (by have := h.data; omega)
  unfold packet_Unpack sum_Open
  rw [if_pos (by rw [sealL_length]; simp [lim14]; omega), openB_seal, openL_seal, Option.bind_some]
  simp only []
  rw [if_pos trivial, New_eq (by omega), Option.bind_some]
  obtain ⟨t1, t2, t3⟩ := Take_ok (b := pkL p) (i := 0) (p := p) (r := []) (by omega) (Nat.zero_le _) h (by simp)
  rw [t1, Option.bind_some]
  simp only []
  rw [if_pos trivial, Left_eq (by omega) t2, Option.bind_some]
  simp only []
  rw [if_neg (by simp)]
theorem Unpack_bad {b : List UInt8} (hl : b.length ≤ 140737488351300) (h : openB b = false) : packet_Unpack b = some (pk0, 2) := by
  unfold packet_Unpack sum_Open
  rw [if_pos (by simp [lim14]; omega), h, Option.bind_some]
  simp only []
  rw [if_neg (by decide)]
end Go.Proofs.Ytcfapdamgbbklaa
