/- What the printed functions compute, in plain Lean: numbers, pieces, a packet's check. -/
import Derived.Test.YtgobccnphhljcaaDf
namespace Go.Proofs.Ytgobccnphhljcaa
set_option linter.unusedVariables false

theorem w64_small {n : Int} (h1 : -9223372036854775808 ≤ n) (h2 : n < 9223372036854775808) : w64 n = n := by
  simp only [w64, IntKind.wrap, IntKind.bits, IntKind.signed]
  simp
  omega
theorem upto_eq (a b : Int) : packet_upto a b = some (decide (0 ≤ a ∧ a ≤ b)) := by
  unfold packet_upto
  split
  · rename_i h; simp [h]
  · rename_i h; simp; omega
/-- A packet as the wire may say it. -/
def Pok (p : api_Packet) : Prop :=
  0 ≤ p.Path ∧ p.Path ≤ 2 ∧ 0 ≤ p.Number ∧ p.Number ≤ 65535 ∧
  ((p.Kind = 1 ∧ p.Of = 0 ∧ p.From = 0 ∧ p.Data = [] ∧ p.Fin = false ∧ p.Seen = 0 ∧ p.Limit = 0) ∨
   (p.Kind = 2 ∧ 0 ≤ p.Of ∧ p.Of ≤ 65535 ∧ p.From = 0 ∧ p.Data = [] ∧ p.Fin = false ∧ p.Seen = 0 ∧ p.Limit = 0) ∨
   (p.Kind = 3 ∧ p.Of = 0 ∧ 0 ≤ p.From ∧ p.From ≤ 4096 ∧ p.Data.length ≤ 64 ∧ p.From + p.Data.length ≤ 4096 ∧ p.Seen = 0 ∧ p.Limit = 0) ∨
   (p.Kind = 4 ∧ 0 ≤ p.Of ∧ p.Of ≤ 65535 ∧ p.From = 0 ∧ p.Data = [] ∧ p.Fin = false ∧ 0 ≤ p.Seen ∧ p.Seen ≤ 4097 ∧ 0 ≤ p.Limit ∧ p.Limit ≤ 4496))
instance (p : api_Packet) : Decidable (Pok p) := by unfold Pok; infer_instance
theorem Same_eq (p q : api_Packet) : packet_Same p q = some (decide (p = q)) := by
  obtain ⟨a1, a2, a3, a4, a5, a6, a7, a8, a9⟩ := p
  obtain ⟨b1, b2, b3, b4, b5, b6, b7, b8, b9⟩ := q
  simp only [packet_Same, bytes_Equal, Option.bind_some, api_Packet.mk.injEq]
  by_cases h1 : a1 = b1 <;> by_cases h2 : a2 = b2 <;> by_cases h3 : a3 = b3 <;> by_cases h4 : a4 = b4 <;> by_cases h5 : a5 = b5 <;> by_cases h6 : a6 = b6 <;> simp [h1, h2, h3, h4, h5, h6]
  by_cases h7 : a7 = b7 <;> by_cases h8 : a8 = b8 <;> by_cases h9 : a9 = b9 <;> simp [h7, h8, h9]
theorem fields_eq (p : api_Packet) : packet_fields p = some (decide ((p.Kind = 1) ∨ (p.Kind = 2 ∧ 0 ≤ p.Of ∧ p.Of ≤ 65535) ∨ (p.Kind = 3 ∧ 0 ≤ p.From ∧ p.From ≤ 4096 ∧ p.Data.length ≤ 64 ∧ p.From + p.Data.length ≤ 4096) ∨ (p.Kind = 4 ∧ 0 ≤ p.Of ∧ p.Of ≤ 65535 ∧ 0 ≤ p.Seen ∧ p.Seen ≤ 4097 ∧ 0 ≤ p.Limit ∧ p.Limit ≤ 4496))) := by
  unfold packet_fields
  simp only [upto_eq, Option.bind_some]
  split
  · rename_i h; simp [h]
  · split
    · rename_i h1 h
      split
      · rename_i h2
        simp only [decide_eq_true_eq] at h2
        have hw : w64 (4096 - p.From) = 4096 - p.From := w64_small (by omega) (by omega)
        split
        · rename_i h3
          rw [hw]
          first | (congr 1; rw [decide_eq_decide]; omega) | (congr 1; rw [eq_comm, decide_eq_false_iff_not]; omega)
        · rename_i h3
          first | (congr 1; rw [decide_eq_decide]; omega) | (congr 1; rw [eq_comm, decide_eq_false_iff_not]; omega)
      · rename_i h2
        simp only [decide_eq_true_eq] at h2
        first | (congr 1; rw [decide_eq_decide]; omega) | (congr 1; rw [eq_comm, decide_eq_false_iff_not]; omega)
    · split
      · rename_i h1 h3 h
        split
        · rename_i h2
          simp only [decide_eq_true_eq] at h2
          split
          · rename_i h4
            simp only [decide_eq_true_eq] at h4
            first | (congr 1; rw [decide_eq_decide]; omega) | (congr 1; rw [eq_comm, decide_eq_false_iff_not]; omega)
          · rename_i h4
            simp only [decide_eq_true_eq] at h4
            first | (congr 1; rw [decide_eq_decide]; omega) | (congr 1; rw [eq_comm, decide_eq_false_iff_not]; omega)
        · rename_i h2
          simp only [decide_eq_true_eq] at h2
          first | (congr 1; rw [decide_eq_decide]; omega) | (congr 1; rw [eq_comm, decide_eq_false_iff_not]; omega)
      · rename_i h1 h3 h
        simp [h1, h3, h]
theorem Check_eq (p : api_Packet) : packet_Check p = some (if Pok p then 0 else 1) := by
  unfold packet_Check
  simp only [Same_eq, upto_eq, fields_eq, Option.bind_some]
  split
  · rename_i h
    simp only [decide_eq_true_eq] at h
    split
    · rename_i h2
      simp only [decide_eq_true_eq] at h2
      split
      · rename_i h3
        simp only [decide_eq_true_eq] at h3
        obtain ⟨kd, pa, nu, of, fr, da, fi, se, li⟩ := p
        simp only [packet_bare, Pok] at *
        rcases h with rfl | h | h | h
        · simp [h2, h3]
          split <;> rfl
        · obtain ⟨rfl, h⟩ := h
          simp [h2, h3]
          split <;> simp_all
        · obtain ⟨rfl, h⟩ := h
          simp [h2, h3]
          split <;> simp_all
        · obtain ⟨rfl, h⟩ := h
          simp [h2, h3]
          split <;> simp_all
      · rename_i h3
        simp only [decide_eq_true_eq] at h3
        rw [if_neg]
        unfold Pok; omega
    · rename_i h2
      simp only [decide_eq_true_eq] at h2
      rw [if_neg]
      unfold Pok; omega
  · rename_i h
    simp only [decide_eq_true_eq] at h
    rw [if_neg]
    unfold Pok
    intro hp
    apply h
    obtain ⟨-, -, -, -, h | h | h | h⟩ := hp
    · exact .inl h.1
    · exact .inr (.inl ⟨h.1, h.2.1, h.2.2.1⟩)
    · exact .inr (.inr (.inl ⟨h.1, h.2.2.1, h.2.2.2.1, h.2.2.2.2.1, h.2.2.2.2.2.1⟩))
    · exact .inr (.inr (.inr ⟨h.1, h.2.1, h.2.2.1, h.2.2.2.2.2.2⟩))
end Go.Proofs.Ytgobccnphhljcaa
