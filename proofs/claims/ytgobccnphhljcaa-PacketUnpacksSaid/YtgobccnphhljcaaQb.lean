/- The statement PacketErrors, of the printed plain functions. -/
import Derived.Test.YtgobccnphhljcaaQa
import Derived.WalkKit
namespace Go.Proofs.Ytgobccnphhljcaa
set_option linter.unusedVariables false

theorem Plain_bad {p : api_Packet} (h : ¬ Pok p) : packet_Plain p = some ([], 1) := by
  simp [packet_Plain, Check_eq, h]
theorem Pack_bad {p : api_Packet} (h : ¬ Pok p) : packet_Pack p = some ([], 1) := by
  simp [packet_Pack, Plain_bad h]
theorem wakes06 : haulierlaw06_wakes = some true := by kernel_rfl
theorem errors_loop {l : List api_Packet} (hl : l.length ≤ 1000) (hb : ∀ p ∈ l, ¬ Pok p) : ∀ (k i : Nat), i ≤ l.length → l.length - i < k → haulierlaw06_PacketErrors_l0 l k (i : Int) = some true
  | 0, i, _, h => by omega
  | k + 1, i, h, hk => by
    unfold haulierlaw06_PacketErrors_l0
    by_cases hi : i < l.length
    · have hp := hb _ (List.getElem_mem hi)
      rw [if_pos (by omega), if_pos ⟨by omega, by omega⟩, Int.toNat_natCast, List.getElem?_eq_getElem hi]
      simp only [Option.bind_some, Pack_bad hp, Plain_bad hp, Check_eq, if_neg hp]
      simp only [ne_eq, not_true_eq_false, if_false, List.length_nil, Int.ofNat_zero]
      rw [w64_small (by omega) (by omega)]
      simpa using errors_loop hl hb k (i + 1) hi (by omega)
    · rw [if_neg (by omega), Check_eq, Check_eq, if_pos (by decide), if_pos (by decide), wakes06]
      rfl
theorem errors_plain (a : Int) (h1 : -9223372036854775808 ≤ a) (h2 : a < 9223372036854775808) : haulierlaw06_PacketErrors a = some true := by
  have hw : ∃ n : Int, haulierkeep_Within a 1000 = some n ∧ 0 ≤ n ∧ n < 1000 := by
    unfold haulierkeep_Within
    have hm : -1000 < a.tmod 1000 ∧ a.tmod 1000 < 1000 := ⟨Int.neg_lt_of_neg_lt (by have := Int.tmod_lt_of_pos (-a) (show (0 : Int) < 1000 by decide); rw [Int.neg_tmod] at this; omega), Int.tmod_lt_of_pos _ (by decide)⟩
    rw [if_neg (by decide), if_pos (by decide)]
    split
    · rw [w64_small (by omega) (by omega)]
      exact ⟨_, rfl, by omega, by omega⟩
    · exact ⟨_, rfl, by omega, by omega⟩
  obtain ⟨n, hn, h0, hlt⟩ := hw
  unfold haulierlaw06_PacketErrors
  rw [hn]
  simp only [Option.bind_some]
  rw [if_pos (by decide)]
  have e1 : w64 (1 + n) = 1 + n := w64_small (by omega) (by omega)
  rw [e1]
  have e2 : w64 (0 - (1 + n)) = 0 - (1 + n) := w64_small (by omega) (by omega)
  have e3 : w64 (65535 + (1 + n)) = 65535 + (1 + n) := w64_small (by omega) (by omega)
  have e4 : w64 (4096 + (1 + n)) = 4096 + (1 + n) := w64_small (by omega) (by omega)
  have e5 : w64 (4097 + (1 + n)) = 4097 + (1 + n) := w64_small (by omega) (by omega)
  have e6 : w64 (4496 + (1 + n)) = 4496 + (1 + n) := w64_small (by omega) (by omega)
  rw [e2, e3, e4, e5, e6]
  refine errors_loop (by simp) ?_ bigN 0 (Nat.zero_le _) (by simp [bigN])
  simp only [List.mem_cons, List.not_mem_nil, or_false, forall_eq_or_imp, forall_eq]
  refine ⟨?_, ?_, ?_, ?_, ?_, ?_, ?_, ?_, ?_, ?_, ?_, ?_, ?_, ?_, ?_, ?_, ?_, ?_, ?_, ?_, ?_, ?_, ?_, ?_, ?_, ?_, ?_, ?_⟩ <;> (unfold Pok; simp; try omega)
end Go.Proofs.Ytgobccnphhljcaa
