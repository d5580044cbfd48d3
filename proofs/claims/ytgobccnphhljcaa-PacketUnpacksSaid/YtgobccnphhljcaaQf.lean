/- What the printed functions compute, in plain Lean: the reader of spans, the scan of a segment. -/
import Derived.Test.YtgobccnphhljcaaQe
namespace Go.Proofs.Ytgobccnphhljcaa
set_option linter.unusedVariables false

/-- A reader at a place. -/
abbrev rdr (b : List UInt8) (i : Nat) (bad : Bool) : span_Reader := ⟨b, (i : Int), bad⟩
theorem Left_eq {b : List UInt8} {i : Nat} {bad : Bool} (h : b.length ≤ 140737488351300) (hi : i ≤ b.length) : span_Reader_Left (rdr b i bad) = some (((b.length - i : Nat) : Int), rdr b i bad) := by
  unfold span_Reader_Left
  rw [Option.bind_some, w64_small (by show _ ≤ (b.length : Int) - (i : Int); omega) (by show (b.length : Int) - (i : Int) < _; omega)]
  show some ((b.length : Int) - (i : Int), _) = _
  rw [show (b.length : Int) - (i : Int) = ((b.length - i : Nat) : Int) by omega]
theorem At_eq (b : List UInt8) (i : Nat) (bad : Bool) : span_Reader_At (rdr b i bad) = some ((i : Int), rdr b i bad) := rfl
theorem cut_rest {b : List UInt8} {i : Nat} (hi : i ≤ b.length) : cut b (i : Int) (b.length : Int) = some (b.drop i) := by
  rw [cut_eq hi (Nat.le_refl _), List.take_length]
/-- A span is read. -/
def bytesL (b : List UInt8) (i : Nat) (bad : Bool) (m : Int) : List UInt8 × span_Reader :=
  if bad = true then ([], rdr b i true) else match vtake (b.drop i) with
  | none => ([], rdr b i true)
  | some (n, k) => if (n : Int) ≤ m ∧ i + k + n ≤ b.length then ((b.drop (i + k)).take n, rdr b (i + k + n) false) else ([], rdr b i true)
theorem Bytes_eq {b : List UInt8} {i : Nat} {bad : Bool} {m : Int} (h : b.length ≤ 140737488351300) (hi : i ≤ b.length) : span_Reader_Bytes (rdr b i bad) m = some (bytesL b i bad m) := by
  unfold span_Reader_Bytes
  rw [show (rdr b i bad).b_ = b from rfl, show (rdr b i bad).at_ = (i : Int) from rfl, show (rdr b i bad).bad_ = bad from rfl, cut_rest hi, Option.bind_some, Take_eq, Option.bind_some]
  unfold bytesL
  cases bad with
  | true =>
    generalize takenL (b.drop i) = q
    obtain ⟨x10, x11, x12⟩ := q
    rfl
  | false =>
    rw [if_neg (by decide)]
    unfold takenL
    cases hv : vtake (b.drop i) with
    | none => rfl
    | some q =>
      obtain ⟨n, k⟩ := q
      obtain ⟨h1, h2, h3, h4⟩ := vtake_le hv
      rw [List.length_drop] at h1
      simp only []
      rw [if_neg (show ¬ false = true by decide), if_pos trivial]
      by_cases hm : m < (n : Int)
      · rw [if_pos hm, Option.bind_some, if_pos rfl, if_neg (by omega)]
      · rw [if_neg hm, Left_eq h hi, Option.bind_some, Option.bind_some]
        simp only []
        rw [w64_small (by omega) (by omega)]
        by_cases hr : i + k + n ≤ b.length
        · rw [if_neg (by simp; omega), if_pos ⟨by omega, hr⟩]
          rw [w64_small (by omega) (by omega), w64_small (by omega) (by omega)]
          rw [show ((i : Int) + (k : Int)) = ((i + k : Nat) : Int) by omega, show (((i + k : Nat) : Int) + (n : Int)) = ((i + k + n : Nat) : Int) by omega, cut_eq (by omega) hr, Option.bind_some]
          unfold bytes_Clone
          rw [if_pos (by simp [lim14]; omega), Option.bind_some]
          congr 2
          rw [List.drop_take]
          congr 1; omega
        · rw [if_pos (by simp; omega), if_neg (by omega)]
/-- The next unit. -/
def nextL (b : List UInt8) (i : Nat) (bad : Bool) : UInt8 × List UInt8 × Bool × span_Reader :=
  let q := bytesL b i bad 4165
  if q.2.bad_ = true then (0, [], false, q.2) else if openB q.1 = true then (match openL q.1 with | [] => (0, [], false, q.2) | k :: u => (k, u, true, q.2)) else (0, [], false, q.2)
theorem bytesL_le (b : List UInt8) (i : Nat) (bad : Bool) (m : Int) : (bytesL b i bad m).1.length ≤ b.length := by
  unfold bytesL
  split
  · simp
  · split
    · simp
    · split
      · simp; omega
      · simp
theorem next_eq {b : List UInt8} {i : Nat} {bad : Bool} (h : b.length ≤ 140737488351300) (hi : i ≤ b.length) : segment_next (rdr b i bad) = some (nextL b i bad) := by
  unfold segment_next
  rw [Bytes_eq h hi, Option.bind_some]
  have hl := bytesL_le b i bad 4165
  unfold nextL
  generalize bytesL b i bad 4165 = q at *
  obtain ⟨x, s⟩ := q
  simp only [] at hl ⊢
  unfold sum_Open
  rw [if_pos (by simp [lim14]; omega), Option.bind_some]
  unfold span_Reader_Bad
  rw [Option.bind_some]
  simp only []
  by_cases hb : s.bad_ = true
  · rw [if_pos hb, if_pos hb]
  · rw [if_neg hb, if_neg hb]
    by_cases ho : openB x = true
    · rw [if_pos ho, if_pos ho]
      cases hx : openL x with
      | nil => rw [if_pos (by simp)]
      | cons k u =>
        rw [if_neg (by simp; omega)]
        have e : cut (k :: u) 1 ((k :: u).length : Int) = some u := by
          have := cut_rest (b := k :: u) (i := 1) (by simp)
          rw [show ((1 : Nat) : Int) = 1 from rfl] at this
          rw [this]; rfl
        rw [e]
        rfl
    · rw [if_neg ho, if_neg ho]
/-- A unit that stands there is read. -/
theorem next_unit {b rest : List UInt8} {i : Nat} {k : UInt8} {u : List UInt8} (hi : i ≤ b.length) (hu : u.length ≤ 4160) (hb : b.drop i = unitL k u ++ rest) : nextL b i false = (k, u, true, rdr b (i + (unitL k u).length) false) ∧ i + (unitL k u).length ≤ b.length := by
  have hlen := congrArg List.length hb
  rw [List.length_drop, List.length_append] at hlen
  have hs : (sealL (k :: u)).length = u.length + 5 := by rw [sealL_length]; simp
  have hul : (unitL k u).length = vsize (((u.length + 5 : Nat)) : Int) + (u.length + 5) := by
    unfold unitL spanL
    rw [List.length_append, vput_length, hs]
  have hv : vtake (b.drop i) = some (u.length + 5, vsize ((u.length + 5 : Nat) : Int)) := by
    rw [hb]
    unfold unitL spanL
    rw [hs, List.append_assoc]
    exact vtake_vput (by omega) _
  have hq : bytesL b i false 4165 = (sealL (k :: u), rdr b (i + (unitL k u).length) false) := by
    unfold bytesL
    rw [if_neg (by decide), hv]
    simp only []
    rw [if_pos ⟨by omega, by omega⟩]
    congr 1
    · rw [← List.drop_drop, hb]
      unfold unitL spanL
      rw [hs, List.append_assoc, List.drop_append_of_le_length (by rw [vput_length]; omega), List.drop_of_length_le (by rw [vput_length]; omega), List.nil_append, ← hs, List.take_left]
    · rw [hul]
      simp only [rdr]
      congr 2; omega
  refine ⟨?_, by omega⟩
  unfold nextL
  rw [hq]
  simp only []
  rw [if_neg (by decide), if_pos (openB_seal _), openL_seal]
/-- The bytes of some records. -/
def recsL (us : List (List UInt8)) : List UInt8 := (us.map (unitL 2)).flatten
theorem scan_recs {b : List UInt8} (h : b.length ≤ 140737488351300) (x : Int) : ∀ (us : List (List UInt8)) (K i : Nat) (acc : List (List UInt8)) (rest : List UInt8), (∀ u ∈ us, u.length ≤ 4160) → acc.length + us.length ≤ 1000000 → i ≤ b.length → b.drop i = recsL us ++ rest →
    segment_Scan_l0 x (K + us.length) acc (rdr b i false) (i : Int) = segment_Scan_l0 x K (acc ++ us) (rdr b (i + (recsL us).length) false) ((i + (recsL us).length : Nat) : Int) ∧ i + (recsL us).length ≤ b.length
  | [], K, i, acc, rest, _, _, hi, _ => by simp [recsL, hi]
  | u :: us, K, i, acc, rest, hu, hn, hi, hb => by
    have hr : recsL (u :: us) = unitL 2 u ++ recsL us := rfl
    rw [hr, List.append_assoc] at hb
    obtain ⟨h1, h2⟩ := next_unit hi (hu u (by simp)) hb
    have h3 : b.drop (i + (unitL 2 u).length) = recsL us ++ rest := by rw [← List.drop_drop, hb, List.drop_left]
    obtain ⟨h4, h5⟩ := scan_recs h x us K (i + (unitL 2 u).length) (acc ++ [u]) rest (fun v hv => hu v (by simp [hv])) (by simp at hn ⊢; omega) h2 h3
    rw [show K + (u :: us).length = (K + us.length) + 1 by simp; omega]
    refine ⟨?_, by rw [hr, List.length_append]; omega⟩
    rw [segment_Scan_l0, next_eq h hi, Option.bind_some, h1]
    simp only []
    rw [if_pos trivial, if_pos (by decide), if_pos ⟨by simp [fits] at hn ⊢; omega, by simp at hn ⊢; omega⟩, At_eq, Option.bind_some]
    simp only []
    rw [h4, hr, List.length_append, Nat.add_assoc, List.append_assoc]; rfl
end Go.Proofs.Ytgobccnphhljcaa
