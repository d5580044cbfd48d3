/- The statement SegmentEnds, of the printed plain functions. -/
import Derived.Test.YtgobccnphhljcaaQg
namespace Go.Proofs.Ytgobccnphhljcaa
set_option linter.unusedVariables false

def endsU (m : Nat) : List (List UInt8) := (List.range m).map fun j => [UInt8.ofNat j]
theorem endsU_length (m : Nat) : (endsU m).length = m := by simp [endsU]
theorem endsU_one {m : Nat} : ∀ u ∈ endsU m, u.length ≤ 4160 := by simp [endsU]
theorem recsL_append (a b : List (List UInt8)) : recsL (a ++ b) = recsL a ++ recsL b := by simp [recsL]
theorem ends_l0 {m : Nat} (hm : m ≤ 10) (h : List UInt8) (hh : h.length ≤ 1000) : ∀ (k i : Nat), i ≤ m → m - i < k → (h ++ recsL (endsU i)).length ≤ 10000 + 100 * i → haulierlaw09_SegmentEnds_l0 (m : Int) k (h ++ recsL (endsU i)) (i : Int) = some (h ++ recsL (endsU m))
  | 0, i, _, hk, _ => by omega
  | k + 1, i, hi, hk, hl => by
    unfold haulierlaw09_SegmentEnds_l0
    by_cases hlt : i < m
    · rw [if_pos (by omega), u8of_nat (by omega), Record_eq, if_pos (by simp), Option.bind_some]
      have hu := unitL_length 2 [UInt8.ofNat i]
      have hv := vsize_le ((([UInt8.ofNat i] : List UInt8).length : Int) + 5)
      rw [List.length_singleton] at hu hv
      rw [if_pos ⟨by unfold fits; omega, by omega⟩, w64_small (by omega) (by omega), show ((i : Int) + 1) = ((i + 1 : Nat) : Int) by omega]
      have e : h ++ recsL (endsU i) ++ unitL 2 [UInt8.ofNat i] = h ++ recsL (endsU (i + 1)) := by
        rw [List.append_assoc]
        congr 1
        unfold endsU
        rw [List.range_succ, List.map_append, recsL_append]
        simp [recsL]
      rw [e]
      refine ends_l0 hm h hh k (i + 1) hlt (by omega) ?_
      rw [← e, List.length_append]; omega
    · rw [if_neg (by omega), show i = m by omega]
/-- Fewer than four bytes are no unit. -/
theorem next_short {b : List UInt8} (h : b.length ≤ 4) : (nextL b 0 false).2.2.1 = false := by
  unfold nextL
  have hx : (bytesL b 0 false 4165).1.length < 4 := by
    unfold bytesL
    rw [if_neg (by decide)]
    split
    · simp
    · rename_i n k hv
      have := vtake_le hv
      split
      · simp at this ⊢; omega
      · simp
  generalize bytesL b 0 false 4165 = q at *
  obtain ⟨x, s⟩ := q
  simp only [] at hx ⊢
  rw [openB_short hx]
  split <;> rfl
theorem endsR_le : ∀ m : Nat, (recsL (endsU m)).length ≤ 14 * m
  | 0 => by simp [endsU, recsL]
  | m + 1 => by
    have e : recsL (endsU (m + 1)) = recsL (endsU m) ++ unitL 2 [UInt8.ofNat m] := by
      unfold endsU
      rw [List.range_succ, List.map_append, recsL_append]
      simp [recsL]
    have hu := unitL_length 2 [UInt8.ofNat m]
    have hv := vsize_le ((([UInt8.ofNat m] : List UInt8).length : Int) + 5)
    rw [List.length_singleton] at hu hv
    have := endsR_le m
    rw [e, List.length_append]; omega
theorem ends_l1 {x1 : Int} {m n : Nat} (hn : w64 (1 + x1) = (n : Int)) {B z0 z1 z2 : List UInt8} {us : List (List UInt8)} (hus : us.length = m) (hB : B.length ≤ 1000) (hz : ∀ z ∈ [z0, z1, z2], z.length ≤ 1000 ∧ segment_Scan (B ++ z) = some ⟨(n : Int), us, (B.length : Int), false⟩) :
    ∀ k i : Nat, i ≤ 3 → 3 - i < k → haulierlaw09_SegmentEnds_l1 x1 (m : Int) B z0 z1 z2 k (i : Int) = some (Sum.inr ())
  | 0, i, _, h => by omega
  | k + 1, i, h, hk => by
    unfold haulierlaw09_SegmentEnds_l1
    have hL : (([z0, z1, z2] : List (List UInt8)).length : Int) = 3 := rfl
    rw [hL, Option.bind_some]
    by_cases hi : i < 3
    · have hi' : i < [z0, z1, z2].length := hi
      obtain ⟨h1, h2⟩ := hz _ (List.getElem_mem hi')
      rw [if_pos (by simp; omega), if_pos ⟨by omega, by omega⟩, Int.toNat_natCast, List.getElem?_eq_getElem hi', Option.bind_some, Copy_eq (by omega), Option.bind_some]
      rw [if_pos ⟨by unfold fits; omega, by omega⟩, h2, Option.bind_some]
      simp only []
      rw [if_neg (by decide), if_neg (by simp), if_neg (by simp [hus]), if_neg (by simp [hn]), w64_small (by omega) (by omega), show ((i : Int) + 1) = ((i + 1 : Nat) : Int) by omega]
      exact ends_l1 hn hus hB hz k (i + 1) (by omega) (by omega)
    · rw [if_neg (by simp; omega)]
theorem ends_l2 {x y z0 z1 z2 : List UInt8} (hz : ∀ z ∈ [z0, z1, z2], segment_Scan z = some ⟨0, [], 0, false⟩) {r : segment_Found} (hr : segment_Scan (x ++ y) = some r) (hs : r.Sealed = true) :
    ∀ k i : Nat, i ≤ 3 → 3 - i < k → haulierlaw09_SegmentEnds_l2 x y z0 z1 z2 k (i : Int) = some true
  | 0, i, _, h => by omega
  | k + 1, i, h, hk => by
    unfold haulierlaw09_SegmentEnds_l2
    have hL : (([z0, z1, z2] : List (List UInt8)).length : Int) = 3 := rfl
    rw [hL, Option.bind_some]
    by_cases hi : i < 3
    · have hi' : i < [z0, z1, z2].length := hi
      have h2 := hz _ (List.getElem_mem hi')
      rw [if_pos (by simp; omega), if_pos ⟨by omega, by omega⟩, Int.toNat_natCast, List.getElem?_eq_getElem hi', Option.bind_some, h2, Option.bind_some]
      simp only []
      rw [if_neg (by simp), if_neg (by simp), if_neg (by simp), if_neg (by decide), w64_small (by omega) (by omega), show ((i : Int) + 1) = ((i + 1 : Nat) : Int) by omega]
      exact ends_l2 hz hr hs k (i + 1) (by omega) (by omega)
    · rw [if_neg (by simp; omega), hr, Option.bind_some, if_pos hs, wakes09]; rfl
theorem ends_plain (a b c : Int) (d : List UInt8) : haulierlaw09_SegmentEnds a b c d = some true := by
  obtain ⟨n0, hn, hn1⟩ := Within_eq (a := a) (n := 1000) (by decide) (by decide)
  obtain ⟨m, hm, hm1⟩ := Within_eq (a := b) (n := 5) (by decide) (by decide)
  obtain ⟨y, hy, hy1⟩ := Within_eq (a := c) (n := 50) (by decide) (by decide)
  unfold haulierlaw09_SegmentEnds
  rw [hn, Option.bind_some, hm, Option.bind_some]
  have e1 : w64 (1 + (n0 : Int)) = ((n0 + 1 : Nat) : Int) := by rw [w64_small (by omega) (by omega)]; omega
  rw [e1]
  have hN1 : 1 ≤ n0 + 1 := by omega
  have hN2 : n0 + 1 ≤ 1000 := by omega
  generalize n0 + 1 = n at *
  rw [Head_eq, if_pos (by omega), Option.bind_some]
  have hvn := vput_length (n : Int)
  have hsn := vsize_le (n : Int)
  have hvm := vput_length (m : Int)
  have hsm := vsize_le (m : Int)
  have hu1 := unitL_length 1 (vput (n : Int))
  have hu1' := vsize_le (((vput (n : Int)).length : Int) + 5)
  have hl0 := ends_l0 (m := m) (by omega) (unitL 1 (vput (n : Int))) (by omega) bigN 0 (Nat.zero_le _) (by unfold bigN; omega) (by simp [endsU, recsL]; omega)
  rw [show recsL (endsU 0) = [] from rfl, List.append_nil, show ((0 : Nat) : Int) = 0 from rfl] at hl0
  rw [hl0, Option.bind_some]
  have hR := endsR_le m
  have hus : (endsU m).length = m := endsU_length m
  have hB : (unitL 1 (vput (n : Int)) ++ recsL (endsU m)).length ≤ 200 := by rw [List.length_append]; omega
  have hS : ∀ rest : List UInt8, rest.length ≤ 1000 → ∃ K, segment_Scan (unitL 1 (vput (n : Int)) ++ recsL (endsU m) ++ rest) = segment_Scan_l0 (n : Int) (K + 1) (endsU m) (rdr (unitL 1 (vput (n : Int)) ++ recsL (endsU m) ++ rest) (unitL 1 (vput (n : Int)) ++ recsL (endsU m)).length false) ((unitL 1 (vput (n : Int)) ++ recsL (endsU m)).length : Int) := fun rest hr => by
    refine ⟨bigN - m - 1, ?_⟩
    rw [scan_head (n := n) (us := endsU m) (rest := rest) (by rw [List.length_append]; omega) (by omega) (by omega) endsU_one (by omega) rfl, List.length_append, hus]
    rw [show bigN - m - 1 + 1 = bigN - m by unfold bigN; omega]
  generalize hBe : unitL 1 (vput (n : Int)) ++ recsL (endsU m) = B at *
  have hF := unitL_length 3 (vput (n : Int) ++ vput (m : Int))
  rw [List.length_append] at hF
  have hF' := vsize_le ((((vput (n : Int)).length + (vput (m : Int)).length : Nat) : Int) + 5)
  have hok : ∀ rest : List UInt8, rest.length ≤ 500 → segment_Scan (B ++ (unitL 3 (vput (n : Int) ++ vput (m : Int)) ++ rest)) = some ⟨(n : Int), endsU m, ((B.length + (unitL 3 (vput (n : Int) ++ vput (m : Int))).length : Nat) : Int), decide (rest = [])⟩ := fun rest hr => by
    obtain ⟨K, hK⟩ := hS (unitL 3 (vput (n : Int) ++ vput (m : Int)) ++ rest) (by rw [List.length_append]; omega)
    rw [hK]
    have := foot_ok (b := B ++ (unitL 3 (vput (n : Int) ++ vput (m : Int)) ++ rest)) (rest := rest) (by rw [List.length_append, List.length_append]; omega) (n := n) (us := endsU m) (by omega) (K := K) (i := B.length) (by rw [List.length_append]; omega) (by rw [List.drop_left, hus])
    rw [hus] at this
    exact this
  have hbad : ∀ (k : UInt8) (u : List UInt8), u.length ≤ 100 → ¬ (k = 2 ∨ (k = 3 ∧ u = vput (n : Int) ++ vput (m : Int))) → (unitL k u).length ≤ 1000 ∧ segment_Scan (B ++ unitL k u) = some ⟨(n : Int), endsU m, (B.length : Int), false⟩ := fun k u hu hno => by
    have hl := unitL_length k u
    have hl2 := vsize_le ((u.length : Int) + 5)
    refine ⟨by omega, ?_⟩
    obtain ⟨K, hK⟩ := hS (unitL k u) (by omega)
    rw [hK]
    have hx := (next_unit (b := B ++ unitL k u) (rest := []) (i := B.length) (k := k) (u := u) (by rw [List.length_append]; omega) (by omega) (by rw [List.drop_left, List.append_nil])).1
    exact foot_eq (by rw [List.length_append]; omega) (by omega) (by rw [List.length_append]; omega) hx (fun h => hno (by rw [hus] at h; exact h.2))
  rw [Copy_eq (by omega), Option.bind_some, Foot_eq, if_pos (by omega), Option.bind_some]
  rw [if_pos ⟨by unfold fits; omega, by omega⟩, Copy_eq (by rw [List.length_append]; omega), Option.bind_some]
  have hc : haulierkeep_Cut_byte d 20 = some (d.take 20) := Cut_eq (n := 20) (by decide)
  have hc3 : haulierkeep_Cut_byte d 3 = some (d.take 3) := Cut_eq (n := 3) (by decide)
  rw [hc, Option.bind_some]
  have ht : (d.take 20).length ≤ 20 := by rw [List.length_take]; omega
  generalize d.take 20 = t at *
  generalize hFe : unitL 3 (vput (n : Int) ++ vput (m : Int)) = F at *
  rw [if_pos ⟨by unfold fits; rw [List.length_append]; omega, by rw [List.length_append]; omega⟩]
  rw [if_pos ⟨by unfold fits; rw [List.length_append, List.length_append, List.length_singleton]; omega, by rw [List.length_append, List.length_append, List.length_singleton]; omega⟩, Option.bind_some]
  have h1 := hok (t ++ [0]) (by rw [List.length_append, List.length_singleton]; omega)
  rw [show decide (t ++ [(0 : UInt8)] = []) = false by simp, ← List.append_assoc, ← List.append_assoc] at h1
  rw [h1, Option.bind_some]
  simp only []
  rw [if_neg (by decide), if_neg (by rw [List.length_append]; simp), if_neg (by rw [hus]; simp)]
  rw [show decide ((n : Int) ≠ (n : Int)) = false by simp, Option.bind_some, if_neg (by decide), hy, Option.bind_some]
  have y1 : w64 (1 + (y : Int)) = ((y + 1 : Nat) : Int) := by rw [w64_small (by omega) (by omega)]; omega
  have y2 : w64 ((n : Int) + ((y + 1 : Nat) : Int)) = ((n + y + 1 : Nat) : Int) := by rw [w64_small (by omega) (by omega)]; omega
  have y3 : w64 ((m : Int) + ((y + 1 : Nat) : Int)) = ((m + y + 1 : Nat) : Int) := by rw [w64_small (by omega) (by omega)]; omega
  rw [y1, y2, Option.bind_some, Foot_eq, if_pos (by omega), Option.bind_some, y3, Foot_eq, if_pos (by omega), Option.bind_some, Option.bind_some]
  have hv1 := vput_length ((n + y + 1 : Nat) : Int)
  have hw1 := vsize_le ((n + y + 1 : Nat) : Int)
  have hv2 := vput_length ((m + y + 1 : Nat) : Int)
  have hw2 := vsize_le ((m + y + 1 : Nat) : Int)
  have z0 := hbad 3 (vput ((n + y + 1 : Nat) : Int) ++ vput (m : Int)) (by rw [List.length_append]; omega) (by
    rintro (h | ⟨_, h⟩)
    · exact absurd h (by decide)
    · have := vput_inj (by omega) (by omega) h; omega)
  have z1 := hbad 3 (vput (n : Int) ++ vput ((m + y + 1 : Nat) : Int)) (by rw [List.length_append]; omega) (by
    rintro (h | ⟨_, h⟩)
    · exact absurd h (by decide)
    · have h2 := List.append_cancel_left h
      have := vput_inj (a := m + y + 1) (b := m) (r := []) (s := []) (by omega) (by omega) (by rw [List.append_nil, List.append_nil]; exact h2)
      omega)
  have z2 := hbad 1 (vput (n : Int)) (by omega) (by
    rintro (h | ⟨h, _⟩) <;> exact absurd h (by decide))
  have hl1 := ends_l1 (x1 := (n0 : Int)) e1 hus (B := B) (by omega) (z0 := unitL 3 (vput ((n + y + 1 : Nat) : Int) ++ vput (m : Int))) (z1 := unitL 3 (vput (n : Int) ++ vput ((m + y + 1 : Nat) : Int))) (z2 := unitL 1 (vput (n : Int)))
    (by intro z hz; simp only [List.mem_cons, List.not_mem_nil, or_false] at hz; rcases hz with rfl | rfl | rfl; (· exact z0); (· exact z1); (· exact z2)) bigN 0 (by omega) (by unfold bigN; omega)
  rw [show ((0 : Nat) : Int) = 0 from rfl] at hl1
  rw [hl1, Option.bind_some]
  simp only []
  rw [Record_eq, if_pos (by simp), Option.bind_some, Foot_eq, if_pos (by omega), Option.bind_some, hc3, Option.bind_some]
  have hzero : ∀ (k : UInt8) (u : List UInt8), u.length ≤ 100 → k ≠ 1 → segment_Scan (unitL k u) = some ⟨0, [], 0, false⟩ := fun k u hu hk => by
    have hl := unitL_length k u
    have hl2 := vsize_le ((u.length : Int) + 5)
    rw [scan_eq (by omega), (next_unit (b := unitL k u) (rest := []) (i := 0) (k := k) (u := u) (by omega) (by omega) (by rw [List.drop_zero, List.append_nil])).1]
    rw [if_neg (fun h => hk h.2.1)]
  have hv0 := vput_length (0 : Int)
  have hs0 := vsize_le (0 : Int)
  have w2 : segment_Scan (d.take 3) = some ⟨0, [], 0, false⟩ := by
    have h3 : (d.take 3).length ≤ 3 := by rw [List.length_take]; omega
    rw [scan_eq (by omega), if_neg]
    intro h
    rw [next_short (by omega)] at h
    exact absurd h.1 (by decide)
  have hr := hok [] (by simp)
  rw [List.append_nil] at hr
  have hl2 := ends_l2 (x := B) (y := F) (z0 := unitL 2 [1]) (z1 := unitL 3 (vput (n : Int) ++ vput 0)) (z2 := d.take 3)
    (by intro z hz; simp only [List.mem_cons, List.not_mem_nil, or_false] at hz; rcases hz with rfl | rfl | rfl; (· exact hzero 2 [1] (by simp) (by decide)); (· exact hzero 3 _ (by rw [List.length_append]; omega) (by decide)); (· exact w2)) hr (by simp) bigN 0 (by omega) (by unfold bigN; omega)
  rw [show ((0 : Nat) : Int) = 0 from rfl] at hl2
  exact hl2
end Go.Proofs.Ytgobccnphhljcaa
