/- A seal that is spoilt is none. -/
import Derived.Test.YtcfapdamgbbklaaTb
import Derived.Test.YtcfapdamgbbklaaPc
namespace Go.Proofs.Ytcfapdamgbbklaa
set_option linter.unusedVariables false

/-- A digit of a seal turned. -/
theorem flip_open {s : List UInt8} {k : Nat} (hk : k < 8 * s.length) (h : openB s = true) : openB (flipBit s k) = false := by
  cases h2 : openB (flipBit s k) with
  | false => rfl
  | true =>
    exfalso
    have e : spoilL s (k : Int) 1 = flipBit s k := by
      have hrec : ∀ n, spoilTo s (k : Int) 1 (n + 1) = flipBit s k := fun n => by
        induction n with
        | zero =>
          rw [spoilTo, if_pos ⟨by omega, by omega, by decide⟩, spoilTo]
          congr 1
        | succ n ih =>
          rw [spoilTo, if_neg, ih]
          rintro ⟨_, _, h⟩
          rw [show (1 : UInt32).toNat = 1 from rfl, Nat.testBit_succ] at h
          simp at h
      exact hrec 31
    have hf := found h (by rw [e]; exact h2)
    rw [e] at hf
    have hb := big_flip s k hk
    rw [hf] at hb
    have h3 := congrArg (big s ^^^ ·) hb
    simp only [← Nat.xor_assoc, Nat.xor_self, Nat.zero_xor] at h3
    have := Nat.two_pow_pos k
    omega
theorem flip_mid (a x r : List UInt8) {k : Nat} (hk : k < 8 * x.length) : flipBit (a ++ x ++ r) (8 * a.length + k) = a ++ flipBit x k ++ r := by
  unfold flipBit
  have e1 : (8 * a.length + k) / 8 = a.length + k / 8 := by omega
  have e2 : (8 * a.length + k) % 8 = k % 8 := by omega
  have h3 : k / 8 < x.length := by omega
  rw [e1, e2, List.append_assoc, List.set_append, if_neg (by omega), Nat.add_sub_cancel_left, List.set_append, if_pos h3, List.append_assoc]
  congr 4
  rw [List.getD_eq_getElem?_getD, List.getD_eq_getElem?_getD, List.getElem?_append_right (by omega), Nat.add_sub_cancel_left, List.getElem?_append_left h3]
theorem spoil_bit {s : List UInt8} {bit : Int} {mask : UInt32} (h0 : 0 ≤ bit) (h1 : bit < 8 * s.length) (hm : mask.toNat.testBit 0 = true) : ∀ n, (big (spoilTo s bit mask (n + 1))).testBit bit.toNat = !(big s).testBit bit.toNat
  | 0 => by
    rw [spoilTo, if_pos ⟨by omega, by omega, hm⟩, spoilTo, big_flip _ _ (by omega), Nat.testBit_xor, Nat.testBit_two_pow]
    simp
  | n + 1 => by
    rw [spoilTo]
    split
    · rename_i h
      rw [big_flip _ _ (by rw [spoilTo_length]; omega), Nat.testBit_xor, spoil_bit h0 h1 hm n, Nat.testBit_two_pow]
      have hne : ¬ (bit + ((n + 1 : Nat) : Int)).toNat = bit.toNat := by omega
      rw [decide_eq_false hne, Bool.xor_false]
    · exact spoil_bit h0 h1 hm n
theorem spoil_open {s : List UInt8} {bit : Int} {mask : UInt32} (h0 : 0 ≤ bit) (h1 : bit < 8 * s.length) (hm : mask.toNat.testBit 0 = true) (h : openB s = true) : openB (spoilL s bit mask) = false := by
  cases h2 : openB (spoilL s bit mask) with
  | false => rfl
  | true =>
    exfalso
    have e := found h h2
    have := spoil_bit h0 h1 hm 31
    rw [show spoilTo s bit mask (31 + 1) = spoilL s bit mask from rfl, e] at this
    cases hb : (big s).testBit bit.toNat <;> rw [hb] at this <;> cases this
end Go.Proofs.Ytcfapdamgbbklaa
