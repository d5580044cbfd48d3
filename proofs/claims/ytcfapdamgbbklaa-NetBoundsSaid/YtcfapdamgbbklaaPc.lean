/- What the cyclic sum finds: bytes that are sealed, and spoilt within thirty-two digits in a row, are none. -/
import Derived.Test.YtcfapdamgbbklaaPb
namespace Go.Proofs.Ytcfapdamgbbklaa

/-- One digit, of any number. -/
def nb (n : Nat) : Nat := if n % 2 = 1 then (n / 2) ^^^ 3988292384 else n / 2
def nbs : Nat → Nat → Nat
  | 0, n => n
  | k + 1, n => nb (nbs k n)

theorem nb_xor (a b : Nat) : nb (a ^^^ b) = nb a ^^^ nb b := by
  have h1 : (a ^^^ b) / 2 = a / 2 ^^^ b / 2 := Nat.xor_div_two_pow (n := 1)
  have h2 : (a ^^^ b) % 2 = (a % 2) ^^^ (b % 2) := Nat.xor_mod_two_pow (n := 1)
  unfold nb
  rw [h1, h2]
  rcases Nat.mod_two_eq_zero_or_one a with ha | ha <;> rcases Nat.mod_two_eq_zero_or_one b with hb | hb <;> simp only [ha, hb]
  · simp
  · simp [Nat.xor_assoc]
  · simp only [Nat.xor_zero, if_true, Nat.xor_assoc, if_neg (show ¬ (0 = 1) by decide)]
    rw [Nat.xor_comm (b / 2)]
  · simp only [Nat.xor_self, if_true, if_neg (show ¬ (0 = 1) by decide)]
    rw [Nat.xor_assoc, Nat.xor_comm 3988292384, Nat.xor_assoc, Nat.xor_self, Nat.xor_zero]
theorem nbs_xor (k a b : Nat) : nbs k (a ^^^ b) = nbs k a ^^^ nbs k b := by
  induction k with
  | zero => rfl
  | succ k ih => simp only [nbs, ih, nb_xor]
theorem nbs_add (j k n : Nat) : nbs (j + k) n = nbs j (nbs k n) := by
  induction j with
  | zero => simp [nbs]
  | succ j ih => rw [Nat.succ_add]; simp only [nbs, ih]
theorem nb_two (m : Nat) : nb (2 * m) = m := by
  unfold nb; rw [if_neg (by omega)]; omega
theorem nbs_shift (k m : Nat) : nbs k (2 ^ k * m) = m := by
  induction k generalizing m with
  | zero => simp [nbs]
  | succ k ih =>
    rw [nbs_add k 1]
    have : nbs 1 (2 ^ (k + 1) * m) = 2 ^ k * m := by
      show nb (2 ^ (k + 1) * m) = _
      rw [show 2 ^ (k + 1) * m = 2 * (2 ^ k * m) from by rw [Nat.pow_succ]; simp [Nat.mul_comm, Nat.mul_left_comm], nb_two]
    rw [this, ih]
theorem nb_small {m : Nat} (h : m < 2 ^ 32) : nb m < 2 ^ 32 ∧ (nb m = 0 → m = 0) := by
  unfold nb
  split
  · refine ⟨Nat.xor_lt_two_pow (by omega) (by decide), fun h0 => ?_⟩
    have : m / 2 = 3988292384 := by
      have h1 := congrArg (· ^^^ 3988292384) h0
      simpa [Nat.xor_assoc] using h1
    omega
  · exact ⟨by omega, fun h0 => by omega⟩
theorem nbs_small (k : Nat) {m : Nat} (h : m < 2 ^ 32) : nbs k m < 2 ^ 32 ∧ (nbs k m = 0 → m = 0) := by
  induction k with
  | zero => exact ⟨h, id⟩
  | succ k ih => exact ⟨(nb_small ih.1).1, fun h0 => ih.2 ((nb_small ih.1).2 h0)⟩
theorem bsteps_toNat (k : Nat) (s : UInt32) : (bsteps k s).toNat = nbs k s.toNat := by
  induction k with
  | zero => rfl
  | succ k ih => simp only [bsteps, nbs, bstep_toNat, ih]; rfl

/-- Bytes as one number. -/
def big : List UInt8 → Nat
  | [] => 0
  | c :: b => c.toNat ^^^ (2 ^ 8 * big b)
theorem xor_add {x : Nat} (y : Nat) (h : x < 256) : x ^^^ (2 ^ 8 * y) = 2 ^ 8 * y + x := by
  apply Nat.eq_of_testBit_eq
  intro j
  rw [Nat.testBit_two_pow_mul_add y (show x < 2 ^ 8 from h), Nat.testBit_xor, Nat.testBit_two_pow_mul]
  by_cases hj : j < 8
  · rw [if_pos hj]; simp [show ¬ 8 ≤ j by omega]
  · rw [if_neg hj]
    have : x.testBit j = false := Nat.testBit_lt_two_pow (Nat.lt_of_lt_of_le h (Nat.pow_le_pow_right (n := 2) (by decide) (show 8 ≤ j by omega)))
    simp [this, show 8 ≤ j by omega]
theorem big_inj : ∀ {a b : List UInt8}, a.length = b.length → big a = big b → a = b
  | [], [], _, _ => rfl
  | c :: a, d :: b, hl, h => by
    unfold big at h
    rw [xor_add _ c.toNat_lt, xor_add _ d.toNat_lt] at h
    have hc := c.toNat_lt
    have hd := d.toNat_lt
    have h1 : c.toNat = d.toNat := by omega
    have h2 : big a = big b := by omega
    rw [UInt8.toNat_inj.1 h1, big_inj (by simpa using hl) h2]

theorem cstep_num (s : UInt32) (c : UInt8) : (cstep s c).toNat = nbs 8 (s.toNat ^^^ c.toNat) := by
  have hq : (s.toUInt8 ^^^ c).toNat = (s.toNat % 256) ^^^ c.toNat := by rw [UInt8.toNat_xor, UInt32.toNat_toUInt8]
  have hlt := (s.toUInt8 ^^^ c).toNat_lt
  unfold cstep
  rw [tab_get _ hlt, UInt32.toNat_xor, bsteps_toNat, UInt32.toNat_shiftRight, UInt32.toNat_ofNat', Nat.mod_eq_of_lt (show (s.toUInt8 ^^^ c).toNat < 2 ^ 32 by omega), hq]
  have hs : s.toNat = (s.toNat % 256) ^^^ (2 ^ 8 * (s.toNat / 256)) := by rw [xor_add _ (Nat.mod_lt _ (by decide))]; omega
  conv => rhs; rw [hs]
  rw [show (s.toNat % 256 ^^^ 2 ^ 8 * (s.toNat / 256)) ^^^ c.toNat = (s.toNat % 256 ^^^ c.toNat) ^^^ 2 ^ 8 * (s.toNat / 256) from by rw [Nat.xor_assoc, Nat.xor_comm (2 ^ 8 * _), ← Nat.xor_assoc]]
  rw [nbs_xor 8 (s.toNat % 256 ^^^ c.toNat), nbs_shift, Nat.xor_comm]
  simp [Nat.shiftRight_eq_div_pow]
theorem creg_num (b : List UInt8) : ∀ r : UInt32, (creg r b).toNat = nbs (8 * b.length) (r.toNat ^^^ big b) := by
  induction b with
  | nil => intro r; simp [creg, big, nbs]
  | cons c b ih =>
    intro r
    have h1 : creg r (c :: b) = creg (cstep r c) b := rfl
    rw [h1, ih, cstep_num, List.length_cons, show 8 * (b.length + 1) = 8 * b.length + 8 from by omega, nbs_add]
    congr 1
    rw [show big (c :: b) = c.toNat ^^^ (2 ^ 8 * big b) from rfl, ← Nat.xor_assoc, nbs_xor 8 (r.toNat ^^^ c.toNat), nbs_shift]
#print axioms creg_num

theorem big_flip : ∀ (b : List UInt8) (k : Nat), k < 8 * b.length → big (flipBit b k) = big b ^^^ 2 ^ k
  | [], k, h => by simp at h
  | c :: b, k, h => by
    by_cases hk : k < 8
    · have h0 : flipBit (c :: b) k = (c ^^^ (1 <<< (UInt8.ofNat k))) :: b := by
        unfold flipBit
        rw [show k / 8 = 0 from by omega, show k % 8 = k from by omega]; rfl
      have h1 : (1 <<< UInt8.ofNat k : UInt8).toNat = 2 ^ k := by
        rcases (show k = 0 ∨ k = 1 ∨ k = 2 ∨ k = 3 ∨ k = 4 ∨ k = 5 ∨ k = 6 ∨ k = 7 from by omega) with rfl | rfl | rfl | rfl | rfl | rfl | rfl | rfl <;> decide
      rw [h0]
      show (c ^^^ (1 <<< (UInt8.ofNat k))).toNat ^^^ (2 ^ 8 * big b) = (c.toNat ^^^ (2 ^ 8 * big b)) ^^^ 2 ^ k
      rw [UInt8.toNat_xor, h1, Nat.xor_assoc, Nat.xor_assoc, Nat.xor_comm (2 ^ k)]
    · obtain ⟨j, rfl⟩ : ∃ j, k = j + 8 := ⟨k - 8, by omega⟩
      have h0 : flipBit (c :: b) (j + 8) = c :: flipBit b j := by
        unfold flipBit
        rw [show (j + 8) / 8 = j / 8 + 1 from by omega, show (j + 8) % 8 = j % 8 from by omega]; rfl
      rw [h0]
      show c.toNat ^^^ (2 ^ 8 * big (flipBit b j)) = (c.toNat ^^^ (2 ^ 8 * big b)) ^^^ 2 ^ (j + 8)
      rw [big_flip b j (by simp at h; omega), Nat.xor_assoc]
      congr 1
      rw [Nat.pow_add, Nat.mul_comm (2 ^ j), Nat.mul_comm, Nat.mul_comm (2 ^ 8) (big b), Nat.mul_comm (2 ^ 8) (2 ^ j)]
      have := Nat.shiftLeft_xor_distrib (a := big b) (b := 2 ^ j) (i := 8)
      simpa [Nat.shiftLeft_eq] using this
theorem big_spoil (b : List UInt8) (bit : Int) (mask : UInt32) (n : Nat) : ∃ m, m < 2 ^ n ∧ big (spoilTo b bit mask n) = big b ^^^ (2 ^ bit.toNat * m) := by
  induction n with
  | zero => exact ⟨0, by simp, by simp [spoilTo]⟩
  | succ n ih =>
    obtain ⟨m, hm, he⟩ := ih
    rw [spoilTo]
    split
    · rename_i h
      rw [big_flip _ _ (by rw [spoilTo_length]; omega), he]
      by_cases hb : 0 ≤ bit
      · refine ⟨m ^^^ 2 ^ n, Nat.xor_lt_two_pow (by rw [Nat.pow_succ]; omega) (Nat.pow_lt_pow_right (by decide) (by omega)), ?_⟩
        rw [Nat.xor_assoc, show (bit + n).toNat = bit.toNat + n from by omega, Nat.pow_add]
        congr 1
        have := Nat.shiftLeft_xor_distrib (a := m) (b := 2 ^ n) (i := bit.toNat)
        rw [Nat.shiftLeft_eq, Nat.shiftLeft_eq, Nat.shiftLeft_eq] at this
        rw [Nat.mul_comm (2 ^ bit.toNat) (m ^^^ 2 ^ n), this, Nat.mul_comm m, Nat.mul_comm (2 ^ n)]
      · refine ⟨m ^^^ 2 ^ (bit + n).toNat, Nat.xor_lt_two_pow (by rw [Nat.pow_succ]; omega) (Nat.pow_lt_pow_right (by decide) (by omega)), ?_⟩
        rw [show bit.toNat = 0 from by omega, Nat.xor_assoc]; simp
    · exact ⟨m, by rw [Nat.pow_succ]; omega, he⟩
theorem big_le4 (v : UInt32) : big (le4 v) = v.toNat := by
  have h := v.toNat_lt
  have hs : ∀ k : UInt32, k.toNat < 32 → (v >>> k).toNat = v.toNat / 2 ^ k.toNat := fun k hk => by
    rw [UInt32.toNat_shiftRight, Nat.mod_eq_of_lt hk, Nat.shiftRight_eq_div_pow]
  unfold le4
  simp only [big]
  rw [xor_add _ (UInt8.toNat_lt _), xor_add _ (UInt8.toNat_lt _), xor_add _ (UInt8.toNat_lt _)]
  simp only [UInt32.toNat_toUInt8, hs 8 (by decide), hs 16 (by decide), hs 24 (by decide)]
  rw [show (8 : UInt32).toNat = 8 from rfl, show (16 : UInt32).toNat = 16 from rfl, show (24 : UInt32).toNat = 24 from rfl]
  simp
  omega
theorem xor_not (x : BitVec 32) : x ^^^ ~~~x = BitVec.allOnes 32 := by
  apply BitVec.eq_of_getLsbD_eq
  intro i hi
  rw [BitVec.getLsbD_xor, BitVec.getLsbD_not, BitVec.getLsbD_allOnes]
  simp [hi]
/-- Of what is opened the register ends at one number. -/
theorem creg_open {t : List UInt8} (h : openB t = true) : (creg 4294967295 t).toNat = nbs 32 4294967295 := by
  unfold openB at h
  simp only [Bool.and_eq_true, decide_eq_true_eq, beq_iff_eq] at h
  obtain ⟨h4, he⟩ := h
  generalize hm : t.take (t.length - 4) = m at he
  have ht : t = m ++ le4 (crc m) := by rw [he, ← hm, List.take_append_drop]
  rw [ht]
  have h1 : creg 4294967295 (m ++ le4 (crc m)) = creg (creg 4294967295 m) (le4 (crc m)) := by unfold creg; rw [List.foldl_append]
  rw [h1, creg_num, big_le4, le4_length]
  unfold crc
  generalize creg 4294967295 m = r
  have hx : r.toNat ^^^ (~~~ r).toNat = 4294967295 := by
    rw [← UInt32.toNat_xor]
    have : r ^^^ ~~~ r = 4294967295 := by
      apply UInt32.toBitVec_inj.1
      simp only [UInt32.toBitVec_xor, UInt32.toBitVec_not]
      exact xor_not _
    rw [this]; rfl
  rw [hx]
/-- ██ P2.3 ██ -/
theorem found {s : List UInt8} {bit : Int} {mask : UInt32} (h1 : openB s = true) (h2 : openB (spoilL s bit mask) = true) : spoilL s bit mask = s := by
  have c1 := creg_open h1
  have c2 := creg_open h2
  obtain ⟨m, hm, he⟩ := big_spoil s bit mask 32
  rw [creg_num] at c1 c2
  unfold spoilL at *
  rw [spoilTo_length, he, ← Nat.xor_assoc, nbs_xor, c1] at c2
  have h0 : nbs (8 * s.length) (2 ^ bit.toNat * m) = 0 := by
    have := congrArg (nbs 32 4294967295 ^^^ ·) c2
    simpa [← Nat.xor_assoc] using this
  have hz : 2 ^ bit.toNat * m = 0 := by
    rcases Nat.le_total bit.toNat (8 * s.length) with hle | hle
    · obtain ⟨j, hj⟩ : ∃ j, 8 * s.length = j + bit.toNat := ⟨8 * s.length - bit.toNat, by omega⟩
      rw [hj, nbs_add, nbs_shift] at h0
      rw [(nbs_small j hm).2 h0]; simp
    · obtain ⟨j, hj⟩ : ∃ j, bit.toNat = 8 * s.length + j := ⟨bit.toNat - 8 * s.length, by omega⟩
      rw [hj, Nat.pow_add, Nat.mul_assoc, nbs_shift] at h0
      rw [hj, Nat.pow_add, Nat.mul_assoc, h0]; simp
  rw [hz, Nat.xor_zero] at he
  exact big_inj (spoilTo_length _ _ _ _) he
#print axioms found
end Go.Proofs.Ytcfapdamgbbklaa
