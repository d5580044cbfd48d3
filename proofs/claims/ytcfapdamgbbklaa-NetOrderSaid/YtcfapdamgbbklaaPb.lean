/- Seals, as lists of bytes: what is sealed is opened. -/
import Derived.Test.YtcfapdamgbbklaaPa
namespace Go.Proofs.Ytcfapdamgbbklaa

def openL (b : List UInt8) : List UInt8 := if openB b = true then b.take (b.length - 4) else []
theorem sealL_take (b : List UInt8) : (sealL b).take b.length = b := by simp [sealL]
theorem openB_seal (b : List UInt8) : openB (sealL b) = true := by
  unfold openB
  rw [sealL_length, show b.length + 4 - 4 = b.length from by omega, sealL_take]
  simp [sealL]
theorem openL_seal (b : List UInt8) : openL (sealL b) = b := by
  unfold openL
  rw [if_pos (openB_seal b), sealL_length, show b.length + 4 - 4 = b.length from by omega, sealL_take]
theorem openB_short {b : List UInt8} (h : b.length < 4) : openB b = false := by
  unfold openB; simp; omega
theorem openL_short {b : List UInt8} (h : b.length < 4) : openL b = [] := by
  unfold openL; rw [openB_short h]; rfl
theorem openB_zero : openB [0, 0, 0, 0] = true := by decide +kernel
theorem crc_example : crc [49, 50, 51, 52, 53, 54, 55, 56, 57] = 3421780262 := by decide +kernel
/-- Any number as one from 0 to n - 1. -/
def within (v n : Int) : Int := if n < 1 then 0 else v % n
theorem within_range (v n : Int) (h : 1 ≤ n) : 0 ≤ within v n ∧ within v n < n := by
  unfold within; rw [if_neg (by omega)]
  exact ⟨Int.emod_nonneg _ (by omega), Int.emod_lt_of_pos _ (by omega)⟩
theorem emod_tmod (v n : Int) : v % n = (v.tmod n) % n := by
  have h := Int.mul_tdiv_add_tmod v n
  conv => lhs; rw [← h]
  rw [Int.add_comm, Int.add_mul_emod_self_left]
theorem within_pos (v n : Int) (hn : ¬ n < 1) (h : ¬ v.tmod n < 0) (h1 : v.tmod n < n) : within v n = v.tmod n := by
  unfold within; rw [if_neg hn, emod_tmod]; exact Int.emod_eq_of_lt (by omega) h1
theorem within_neg (v n : Int) (hn : ¬ n < 1) (h : v.tmod n < 0) (h1 : -n < v.tmod n) : within v n = v.tmod n + n := by
  unfold within; rw [if_neg hn, emod_tmod]
  have : (v.tmod n + n) % n = v.tmod n % n := by simp
  rw [← this]; exact Int.emod_eq_of_lt (by omega) (by omega)
#print axioms crc_example
end Go.Proofs.Ytcfapdamgbbklaa
