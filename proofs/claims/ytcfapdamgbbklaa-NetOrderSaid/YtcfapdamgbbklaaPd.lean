/- Numbers in one, two, four or eight bytes, as lists of bytes. -/
namespace Go.Proofs.Ytcfapdamgbbklaa

def maxVint : Int := 4611686018427387903
/-- How many bytes a number has. -/
def vsize (n : Int) : Nat := if n < 0 ∨ n > 4611686018427387903 then 0 else if n < 64 then 1 else if n < 16384 then 2 else if n < 1073741824 then 4 else 8
def vmark (s : Nat) : UInt8 := if s = 2 then 64 else if s = 4 then 128 else if s = 8 then 192 else 0
/-- The last k bytes of a number, the highest first. -/
def bigE : Nat → Nat → List UInt8
  | 0, _ => []
  | k + 1, n => UInt8.ofNat (n / 256 ^ k) :: bigE k n
/-- The first of so many bytes bears the mark. -/
def marked (l : List UInt8) (m : UInt8) : List UInt8 := match l with
  | [] => []
  | c :: b => (c ||| m) :: b
def vput (n : Int) : List UInt8 := marked (bigE (vsize n) n.toNat) (vmark (vsize n))
theorem be_length (k n : Nat) : (bigE k n).length = k := by
  induction k with
  | zero => rfl
  | succ k ih => simp [bigE, ih]
theorem vput_length (n : Int) : (vput n).length = vsize n := by
  unfold vput marked
  have := be_length (vsize n) n.toNat
  cases h : bigE (vsize n) n.toNat <;> simp [h] at this ⊢ <;> omega
theorem vsize_cases (n : Int) : (vsize n = 0 ∧ (n < 0 ∨ n > 4611686018427387903)) ∨ (0 ≤ n ∧ n ≤ 4611686018427387903 ∧ ((vsize n = 1 ∧ n < 64) ∨ (vsize n = 2 ∧ 64 ≤ n ∧ n < 16384) ∨ (vsize n = 4 ∧ 16384 ≤ n ∧ n < 1073741824) ∨ (vsize n = 8 ∧ 1073741824 ≤ n))) := by
  unfold vsize
  split
  · left; exact ⟨rfl, by assumption⟩
  · right
    refine ⟨by omega, by omega, ?_⟩
    split
    · left; exact ⟨rfl, by assumption⟩
    · split
      · right; left; exact ⟨rfl, by omega, by assumption⟩
      · split
        · right; right; left; exact ⟨rfl, by omega, by assumption⟩
        · right; right; right; exact ⟨rfl, by omega⟩
theorem vsize_le (n : Int) : vsize n ≤ 8 := by rcases vsize_cases n with h | h <;> omega
/-- The number of big-ended bytes behind a number. -/
def unbe (a : Nat) (b : List UInt8) : Nat := b.foldl (fun n c => 256 * n + c.toNat) a
/-- The size that a first byte names. -/
def vlen (c : UInt8) : Nat := 2 ^ (c.toNat / 64)
/-- The number at the beginning of bytes, and how many it has. -/
def vtake (b : List UInt8) : Option (Nat × Nat) := match b with
  | [] => none
  | c :: r => if (c :: r).length < vlen c then none else
      let n := unbe (c.toNat % 64) (r.take (vlen c - 1))
      if vput n = (c :: r).take (vlen c) then some (n, vlen c) else none
theorem unbe_snoc (a : Nat) (b : List UInt8) (k : Nat) (x : UInt8) (hx : b[k]? = some x) : unbe a (b.take (k + 1)) = 256 * unbe a (b.take k) + x.toNat := by
  obtain ⟨hk, rfl⟩ := List.getElem?_eq_some_iff.1 hx
  unfold unbe; rw [List.take_succ_eq_append_getElem hk, List.foldl_append]; rfl
theorem unbe_lt (b : List UInt8) : ∀ a, unbe a b < (a + 1) * 256 ^ b.length := by
  induction b with
  | nil => intro a; simp [unbe]
  | cons c b ih =>
    intro a
    have h1 : unbe a (c :: b) = unbe (256 * a + c.toNat) b := rfl
    have h2 := ih (256 * a + c.toNat)
    have h3 := c.toNat_lt
    rw [h1, List.length_cons, Nat.pow_succ]
    refine Nat.lt_of_lt_of_le h2 ?_
    have : (256 * a + c.toNat + 1) ≤ (a + 1) * 256 := by omega
    calc (256 * a + c.toNat + 1) * 256 ^ b.length ≤ ((a + 1) * 256) * 256 ^ b.length := Nat.mul_le_mul_right _ this
      _ = (a + 1) * (256 ^ b.length * 256) := by rw [Nat.mul_assoc, Nat.mul_comm 256]
theorem unbe_small {a : Nat} (ha : a < 64) {b : List UInt8} {k : Nat} (hk : k ≤ 6) : unbe a (b.take k) < 18014398509481984 := by
  have h := unbe_lt (b.take k) a
  have hl : (b.take k).length ≤ 6 := by simp; omega
  have h2 : 256 ^ (b.take k).length ≤ 256 ^ 6 := Nat.pow_le_pow_right (by decide) hl
  have h3 : (a + 1) * 256 ^ (b.take k).length ≤ 64 * 256 ^ 6 := Nat.mul_le_mul (by omega) h2
  have h4 : 64 * 256 ^ 6 = 18014398509481984 := by decide
  omega
theorem vtake_nil : vtake [] = none := rfl
theorem vtake_short {c : UInt8} {r : List UInt8} (h : (c :: r).length < vlen c) : vtake (c :: r) = none := by
  exact if_pos h
theorem vtake_long {c : UInt8} {r : List UInt8} (h : ¬ (c :: r).length < vlen c) : vtake (c :: r) = if vput (unbe (c.toNat % 64) (r.take (vlen c - 1))) = (c :: r).take (vlen c) then some (unbe (c.toNat % 64) (r.take (vlen c - 1)), vlen c) else none := by
  exact if_neg h
#print axioms vsize_le
end Go.Proofs.Ytcfapdamgbbklaa
