/- What the printed functions of segments compute, and the statement SegmentUnits. -/
import Derived.Test.YtgobccnphhljcaaQc
import Derived.WalkKit
namespace Go.Proofs.Ytgobccnphhljcaa
set_option linter.unusedVariables false

/-- A span: its length, then its bytes. -/
def spanL (b : List UInt8) : List UInt8 := vput (b.length : Int) ++ b
/-- A sealed unit of a kind in a span. -/
def unitL (k : UInt8) (b : List UInt8) : List UInt8 := spanL (sealL (k :: b))
theorem part_eq {k : UInt8} {p : List (List UInt8)} (hp : p.length < 1000000) (h : p.flatten.length ≤ 100000000000) : segment_part k p = some (unitL k p.flatten) := by
  unfold segment_part
  rw [Concat_eq (by omega) (by omega)]
  simp only [Option.bind_some]
  generalize p.flatten = q at *
  rw [if_pos ⟨by simp [fits]; omega, by simp; omega⟩]
  unfold sum_Seal
  rw [if_pos (by simp [lim14]; omega)]
  simp only [Option.bind_some]
  rw [Span_eq (by rw [sealL_length]; simp; omega)]
  rfl
theorem Head_eq (n : Int) : segment_Head n = some (if 1 ≤ n ∧ n ≤ 4611686018427387903 then unitL 1 (vput n) else []) := by
  unfold segment_Head
  split
  · rw [if_neg (by omega)]
  · split
    · rw [if_neg (by omega)]
    · rw [Put_eq]
      simp only [Option.bind_some]
      have hl := vput_length n
      have hs := vsize_le n
      rw [part_eq (by simp) (by simp; omega), if_pos (by omega)]
      simp
theorem Foot_eq (n c : Int) : segment_Foot n c = some (if 1 ≤ n ∧ n ≤ 4611686018427387903 ∧ 0 ≤ c ∧ c ≤ 4611686018427387903 then unitL 3 (vput n ++ vput c) else []) := by
  unfold segment_Foot
  split
  · rw [if_neg (by omega)]
  · split
    · rw [if_neg (by omega)]
    · split
      · rw [if_neg (by omega)]
      · split
        · rw [if_neg (by omega)]
        · rw [Put_eq, Put_eq]
          simp only [Option.bind_some]
          have hl := vput_length n
          have hs := vsize_le n
          have hl2 := vput_length c
          have hs2 := vsize_le c
          rw [part_eq (by simp) (by simp; omega), if_pos (by omega)]
          simp
theorem Record_eq (b : List UInt8) : segment_Record b = some (if b.length ≤ 4160 then unitL 2 b else []) := by
  unfold segment_Record
  split
  · rw [if_neg (by omega)]
  · rw [part_eq (by simp) (by simp; omega), if_pos (by omega)]
    simp
theorem unitL_length (k : UInt8) (b : List UInt8) : (unitL k b).length = vsize ((b.length : Int) + 5) + b.length + 5 := by
  unfold unitL spanL
  rw [List.length_append, vput_length, sealL_length, List.length_cons]
  rw [show (((b.length + 1 + 4 : Nat)) : Int) = (b.length : Int) + 5 by omega]
  omega
theorem vput_small {n : Nat} (h : n < 64) : vput (n : Int) = [UInt8.ofNat n] := by
  have hs : vsize (n : Int) = 1 := by unfold vsize; rw [if_neg (by omega), if_pos (by omega)]
  unfold vput
  rw [hs]
  simp [bigE, marked, vmark]
theorem vput_ne {n : Int} (h0 : 0 ≤ n) (h : n ≤ 4611686018427387903) : vput n ≠ [] := fun e => by
  have := vput_length n
  rw [e] at this
  rcases vsize_cases n with ⟨_, h⟩ | ⟨_, _, h⟩ <;> simp at this <;> omega
theorem wakes09 : haulierlaw09_wakes = some true := by kernel_rfl
theorem u8of_nat {n : Nat} (h : n < 256) : u8of (n : Int) = UInt8.ofNat n := by
  unfold u8of
  congr 1; omega
theorem SameB_self {a : List UInt8} (hs : a.length < 4611686018427387904) : haulierkeep_Same_byte a a = some true := by rw [SameB_eq hs, decide_eq_true rfl]
theorem units_plain (a b : Int) (c : List UInt8) : haulierlaw09_SegmentUnits a b c = some true := by
  obtain ⟨n, hn, hn1⟩ := Within_eq (a := a) (n := 60) (by decide) (by decide)
  obtain ⟨m, hm, hm1⟩ := Within_eq (a := b) (n := 60) (by decide) (by decide)
  unfold haulierlaw09_SegmentUnits
  have l1 : (List.replicate (4161 : Int).toNat (0 : UInt8)).length = 4161 := List.length_replicate
  have l0 : (List.replicate (4160 : Int).toNat (0 : UInt8)).length = 4160 := List.length_replicate
  generalize List.replicate (4161 : Int).toNat (0 : UInt8) = z1 at *
  generalize List.replicate (4160 : Int).toNat (0 : UInt8) = z0 at *
  rw [hn]; repeat rw [Option.bind_some]
  rw [hm]; repeat rw [Option.bind_some]
  have hc : haulierkeep_Cut_byte c 40 = some (c.take 40) := Cut_eq (n := 40) (by decide)
  rw [hc]; repeat rw [Option.bind_some]
  have ht : (c.take 40).length ≤ 40 := by rw [List.length_take]; omega
  generalize c.take 40 = d at *
  have e1 : w64 (1 + (n : Int)) = ((n + 1 : Nat) : Int) := by rw [w64_small (by omega) (by omega)]; omega
  rw [e1, u8of_nat (by omega), u8of_nat (by omega)]
  have hS : ∀ l : List UInt8, l.length ≤ 1000 → haulierref01_Seal l = some (sealL l) := fun l hl => by
    unfold haulierref01_Seal sum_Seal; rw [if_pos (by simp [lim14]; omega)]
  rw [hS _ (by simp)]; repeat rw [Option.bind_some]
  rw [hS _ (by simp)]; repeat rw [Option.bind_some]
  rw [if_pos ⟨by simp [fits]; omega, by simp; omega⟩, hS _ (by simp; omega)]; repeat rw [Option.bind_some]
  rw [Head_eq, if_pos (by omega), vput_small (by omega)]; repeat rw [Option.bind_some]
  rw [if_pos ⟨by simp [fits, sealL_length], by simp [sealL_length]⟩]
  have h1 : unitL 1 [UInt8.ofNat (n + 1)] = [6] ++ sealL [1, UInt8.ofNat (n + 1)] := by
    unfold unitL spanL
    rw [sealL_length, show (([1, UInt8.ofNat (n + 1)] : List UInt8).length + 4) = 6 from rfl, vput_small (by decide)]; rfl
  have h3 : unitL 3 ([UInt8.ofNat (n + 1)] ++ [UInt8.ofNat m]) = [7] ++ sealL [3, UInt8.ofNat (n + 1), UInt8.ofNat m] := by
    unfold unitL spanL
    rw [sealL_length, show (((3 : UInt8) :: ([UInt8.ofNat (n + 1)] ++ [UInt8.ofNat m]) : List UInt8).length + 4) = 7 from rfl, vput_small (by decide)]; rfl
  rw [h1, SameB_self (by simp [sealL_length])]
  repeat rw [Option.bind_some]
  rw [if_pos rfl]
  rw [Foot_eq, if_pos (by omega), vput_small (by omega), vput_small (by omega)]; repeat rw [Option.bind_some]
  rw [if_pos ⟨by simp [fits, sealL_length], by simp [sealL_length]⟩, h3, SameB_self (by simp [sealL_length])]
  repeat rw [Option.bind_some]
  rw [if_pos rfl]
  rw [Record_eq, if_pos (by omega)]; repeat rw [Option.bind_some]
  have hl : (sealL ([2] ++ d)).length = d.length + 5 := by rw [sealL_length]; simp
  rw [hl, u8of_nat (by omega)]
  rw [if_pos ⟨by unfold fits; simp; omega, by simp; omega⟩]
  repeat rw [Option.bind_some]
  have h2 : unitL 2 d = [UInt8.ofNat (d.length + 5)] ++ sealL ([2] ++ d) := by
    unfold unitL spanL
    rw [show (2 :: d) = [2] ++ d from rfl, hl, vput_small (by omega)]
  rw [h2, SameB_self (by simp [sealL_length]; omega)]
  repeat rw [Option.bind_some]
  repeat rw [Option.bind_some]
  rw [if_neg (by decide), Head_eq, if_neg (by decide)]; repeat rw [Option.bind_some]
  rw [if_pos (by simp), w64_small (by omega) (by omega), Head_eq, if_neg (by omega)]; repeat rw [Option.bind_some]
  rw [if_pos (by simp), Head_eq, if_neg (by decide)]; repeat rw [Option.bind_some]
  rw [if_pos (by simp), Foot_eq, if_neg (by omega)]; repeat rw [Option.bind_some]
  rw [if_pos (by simp), w64_small (by omega) (by omega), Foot_eq, if_neg (by omega)]; repeat rw [Option.bind_some]
  have v1 : vsize ((4160 : Nat) + 5 : Int) = 2 := by unfold vsize; rw [if_neg (by omega), if_neg (by omega), if_pos (by omega)]
  rw [if_pos (by simp), if_pos (by decide), Record_eq, if_neg (by omega)]; repeat rw [Option.bind_some]
  rw [if_pos (by simp), if_pos (by decide), Record_eq, if_pos (by omega)]; repeat rw [Option.bind_some]
  rw [unitL_length, l0, wakes09, v1, if_pos (by omega)]
  rfl
end Go.Proofs.Ytgobccnphhljcaa
