/- What the printed functions compute, in plain Lean: the scan of a segment; the statement SegmentEnds. -/
import Derived.Test.YtgobccnphhljcaaQf
namespace Go.Proofs.Ytgobccnphhljcaa
set_option linter.unusedVariables false

/-- The number that some bytes are. -/
def numberL (u : List UInt8) : Int := match vtake u with
  | none => 0
  | some (n, k) => if k = u.length then (n : Int) else 0
theorem number_eq (u : List UInt8) : segment_number u = some (numberL u) := by
  unfold segment_number numberL
  rw [Take_eq, Option.bind_some]
  unfold takenL
  cases hv : vtake u with
  | none => rfl
  | some q =>
    obtain ⟨n, k⟩ := q
    simp only []
    rw [if_pos trivial]
    by_cases h : k = u.length
    · rw [if_neg (by simp [h]), if_pos h]
    · rw [if_pos (by omega), if_neg h]
theorem number_vput {n : Nat} (h : n ≤ 4611686018427387903) : numberL (vput (n : Int)) = (n : Int) := by
  unfold numberL
  have := vtake_vput h []
  rw [List.append_nil] at this
  rw [this]
  simp only []
  rw [if_pos (vput_length _).symm]
theorem vput_inj {a b : Nat} (ha : a ≤ 4611686018427387903) (hb : b ≤ 4611686018427387903) {r s : List UInt8} (h : vput (a : Int) ++ r = vput (b : Int) ++ s) : a = b := by
  have h1 := vtake_vput ha r
  rw [h, vtake_vput hb] at h1
  injection h1 with h1
  injection h1 with h1
  exact h1.symm
theorem scan_eq {b : List UInt8} (h : b.length ≤ 140737488351300) : segment_Scan b =
    if (nextL b 0 false).2.2.1 = true ∧ (nextL b 0 false).1 = 1 ∧ numberL (nextL b 0 false).2.1 ≠ 0 then segment_Scan_l0 (numberL (nextL b 0 false).2.1) bigN [] (nextL b 0 false).2.2.2 (nextL b 0 false).2.2.2.at_
    else some ⟨0, [], 0, false⟩ := by
  unfold segment_Scan
  have hn : span_New b = some (rdr b 0 false) := by
    unfold span_New bytes_Clone
    rw [if_pos (by simp [lim14]; omega)]; rfl
  rw [hn, Option.bind_some, next_eq h (Nat.zero_le _), Option.bind_some]
  generalize nextL b 0 false = q
  obtain ⟨k, u, ok, s⟩ := q
  simp only []
  cases ok with
  | false => rw [if_neg (by decide), if_neg (by simp)]; rfl
  | true =>
    rw [if_pos rfl]
    by_cases hk : k = 1
    · subst hk
      rw [if_neg (by decide), number_eq, Option.bind_some, Option.bind_some]
      by_cases h0 : numberL u = 0
      · rw [if_pos (by simp [h0]), if_neg (by simp [h0])]
      · rw [if_neg (by simp [h0]), if_pos ⟨rfl, rfl, h0⟩, Option.bind_some]; rfl
    · have : ¬ (k.toNat : Int) = 1 := fun e => hk (UInt8.toNat.inj (show k.toNat = 1 by omega))
      rw [if_pos this, Option.bind_some, if_pos rfl, if_neg (by simp [hk])]
theorem unitL_ne (k : UInt8) (u : List UInt8) : 0 < (unitL k u).length := by rw [unitL_length]; omega
/-- What is scanned behind a head and some records. -/
theorem scan_head {b rest : List UInt8} (h : b.length ≤ 140737488351300) {n : Nat} (h1 : 1 ≤ n) (h2 : n ≤ 4611686018427387903) {us : List (List UInt8)} (hu : ∀ u ∈ us, u.length ≤ 4160) (hn : us.length ≤ 1000000) (hb : b = unitL 1 (vput (n : Int)) ++ recsL us ++ rest) :
    segment_Scan b = segment_Scan_l0 (n : Int) (bigN - us.length) us (rdr b ((unitL 1 (vput (n : Int))).length + (recsL us).length) false) (((unitL 1 (vput (n : Int))).length + (recsL us).length : Nat) : Int) := by
  have hb0 : b.drop 0 = unitL 1 (vput (n : Int)) ++ (recsL us ++ rest) := by rw [List.drop_zero, hb, List.append_assoc]
  have hvl := vput_length (n : Int)
  have hvs := vsize_le (n : Int)
  obtain ⟨e1, e2⟩ := next_unit (Nat.zero_le _) (by omega) hb0
  rw [scan_eq h, e1]
  simp only []
  rw [number_vput h2, if_pos ⟨trivial, trivial, by omega⟩]
  rw [Nat.zero_add] at e2 ⊢
  have hd : b.drop (unitL 1 (vput (n : Int))).length = recsL us ++ rest := by rw [hb, List.append_assoc, List.drop_left]
  have := (scan_recs h (n : Int) us (bigN - us.length) (unitL 1 (vput (n : Int))).length [] rest hu (by simp; omega) e2 hd).1
  rw [show bigN - us.length + us.length = bigN by unfold bigN; omega, List.nil_append] at this
  exact this
theorem foot_eq {b : List UInt8} (h : b.length ≤ 140737488351300) {n : Nat} {us : List (List UInt8)} (hn : us.length ≤ 1000000) {K i : Nat} (hi : i ≤ b.length) {k : UInt8} {u : List UInt8} {ok : Bool} {s : span_Reader} (hx : nextL b i false = (k, u, ok, s)) (hno : ¬ (ok = true ∧ (k = 2 ∨ (k = 3 ∧ u = vput (n : Int) ++ vput (us.length : Int))))) :
    segment_Scan_l0 (n : Int) (K + 1) us (rdr b i false) (i : Int) = some ⟨(n : Int), us, (i : Int), false⟩ := by
  rw [segment_Scan_l0, next_eq h hi, Option.bind_some, hx]
  simp only []
  cases ok with
  | false => rw [if_neg (by decide)]
  | true =>
    rw [if_pos rfl]
    have h2 : ¬ (k.toNat : Int) = 2 := fun e => hno ⟨rfl, .inl (UInt8.toNat.inj (show k.toNat = 2 by omega))⟩
    rw [if_neg h2]
    by_cases h3 : (k.toNat : Int) = 3
    · have hk : k = 3 := UInt8.toNat.inj (show k.toNat = 3 by omega)
      rw [if_pos h3, Put_eq, Option.bind_some, Put_eq, Option.bind_some]
      have hl1 := vput_length (n : Int)
      have hs1 := vsize_le (n : Int)
      have hl2 := vput_length (us.length : Int)
      have hs2 := vsize_le (us.length : Int)
      rw [Concat_eq (by simp) (by simp; omega), Option.bind_some, if_neg]
      intro e
      exact hno ⟨rfl, .inr ⟨hk, by simpa using e⟩⟩
    · rw [if_neg h3]
theorem foot_ok {b rest : List UInt8} (h : b.length ≤ 140737488351300) {n : Nat} {us : List (List UInt8)} (hn : us.length ≤ 1000000) {K i : Nat} (hi : i ≤ b.length) (hb : b.drop i = unitL 3 (vput (n : Int) ++ vput (us.length : Int)) ++ rest) :
    segment_Scan_l0 (n : Int) (K + 1) us (rdr b i false) (i : Int) = some ⟨(n : Int), us, ((i + (unitL 3 (vput (n : Int) ++ vput (us.length : Int))).length : Nat) : Int), decide (rest = [])⟩ := by
  have hl1 := vput_length (n : Int)
  have hs1 := vsize_le (n : Int)
  have hl2 := vput_length (us.length : Int)
  have hs2 := vsize_le (us.length : Int)
  obtain ⟨e1, e2⟩ := next_unit hi (by rw [List.length_append]; omega) hb
  rw [segment_Scan_l0, next_eq h hi, Option.bind_some, e1]
  simp only []
  rw [if_pos trivial, if_neg (by decide), if_pos (by decide), Put_eq, Option.bind_some, Put_eq, Option.bind_some, Concat_eq (by simp) (by simp; omega), Option.bind_some, if_pos (by simp)]
  rw [At_eq, Option.bind_some]
  simp only []
  rw [Left_eq h e2, Option.bind_some]
  have hlen := congrArg List.length hb
  rw [List.length_drop, List.length_append] at hlen
  have hd : decide (((b.length - (i + (unitL 3 (vput (n : Int) ++ vput (us.length : Int))).length) : Nat) : Int) = 0) = decide (rest = []) := by
    generalize (unitL 3 (vput (n : Int) ++ vput (us.length : Int))).length = q at *
    rw [decide_eq_decide]
    constructor
    · intro e; exact List.eq_nil_of_length_eq_zero (by omega)
    · intro e; subst e; rw [List.length_nil] at hlen; omega
  rw [← hd]
end Go.Proofs.Ytgobccnphhljcaa
