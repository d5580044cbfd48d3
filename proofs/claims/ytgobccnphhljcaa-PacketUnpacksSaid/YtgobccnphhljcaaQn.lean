/- What the printed functions compute, in plain Lean: the document's own reading of packets. -/
import Derived.Test.YtgobccnphhljcaaQm
namespace Go.Proofs.Ytgobccnphhljcaa
set_option linter.unusedVariables false

/-- The document's reader at a place. -/
abbrev rref (b : List UInt8) (i : Nat) (bad : Bool) : haulierref01_Reader := ⟨b, (i : Int), bad⟩
abbrev toR (s : span_Reader) : haulierref01_Reader := ⟨s.b_, s.at_, s.bad_⟩
theorem rByte_eq {b : List UInt8} {i : Nat} {bad : Bool} (h : b.length ≤ 140737488351300) (hi : i ≤ b.length) : haulierref01_Reader_Byte (rref b i bad) = some ((byteL b i bad).1, toR (byteL b i bad).2) := by
  unfold haulierref01_Reader_Byte byteL
  cases bad with
  | true => rfl
  | false =>
    rw [if_neg (show ¬ (rref b i false).Bad = true from Bool.false_ne_true), if_neg (by decide), Option.bind_some]
    simp only []
    by_cases hl : i < b.length
    · rw [if_neg (by simp; omega), w64_small (n := (i : Int) + 1) (by omega) (by omega), w64_small (by omega) (by omega)]
      rw [show (i : Int) + 1 - 1 = (i : Int) by omega, idx, if_pos (by omega), Int.toNat_natCast, List.getElem?_eq_getElem hl, Option.bind_some]
      rfl
    · rw [if_pos (by simp; omega), List.getElem?_eq_none (by omega)]
theorem rNumber_eq {b : List UInt8} {i : Nat} {bad : Bool} (h : b.length ≤ 140737488351300) (hi : i ≤ b.length) : haulierref01_Reader_Number (rref b i bad) = some ((numL b i bad).1, toR (numL b i bad).2) := by
  unfold haulierref01_Reader_Number numL
  rw [show (rref b i bad).B = b from rfl, show (rref b i bad).At = (i : Int) from rfl, show (rref b i bad).Bad = bad from rfl, cut_rest hi, Option.bind_some, refTake_eq, Option.bind_some]
  cases bad with
  | true =>
    generalize takenL (b.drop i) = q
    obtain ⟨x10, x11, x12⟩ := q
    rfl
  | false =>
    unfold takenL
    cases hv : vtake (b.drop i) with
    | none => rfl
    | some q =>
      obtain ⟨n, k⟩ := q
      obtain ⟨h1, h2, h3, h4⟩ := vtake_le hv
      rw [List.length_drop] at h1
      simp only []
      rw [if_neg (show ¬ false = true by decide), Option.bind_some]
      simp only []
      rw [if_neg (by decide), if_neg (by decide), w64_small (by omega) (by omega), show (i : Int) + (k : Int) = ((i + k : Nat) : Int) by omega]
theorem rBytes_eq {b : List UInt8} {i : Nat} {bad : Bool} {m : Int} (h : b.length ≤ 140737488351300) (hi : i ≤ b.length) : haulierref01_Reader_Bytes (rref b i bad) m = some ((bytesL b i bad m).1, toR (bytesL b i bad m).2) := by
  unfold haulierref01_Reader_Bytes
  rw [show (rref b i bad).B = b from rfl, show (rref b i bad).At = (i : Int) from rfl, show (rref b i bad).Bad = bad from rfl, cut_rest hi, Option.bind_some, refTake_eq, Option.bind_some]
  unfold bytesL
  cases bad with
  | true =>
    generalize takenL (b.drop i) = q
    obtain ⟨x10, x11, x12⟩ := q
    rfl
  | false =>
    rw [if_neg (show ¬ false = true by decide)]
    unfold takenL
    cases hv : vtake (b.drop i) with
    | none => rfl
    | some q =>
      obtain ⟨n, k⟩ := q
      obtain ⟨h1, h2, h3, h4⟩ := vtake_le hv
      rw [List.length_drop] at h1
      simp only []
      rw [if_neg (show ¬ false = true by decide), if_pos trivial]
      by_cases hm : m < (n : Int)
      · rw [if_pos hm, Option.bind_some]
        simp only []
        rw [if_pos trivial, if_neg (by omega)]
      · rw [if_neg hm, w64_small (n := (b.length : Int) - (i : Int)) (by omega) (by omega), w64_small (n := (b.length : Int) - (i : Int) - (k : Int)) (by omega) (by omega), Option.bind_some, Option.bind_some]
        simp only []
        by_cases hr : i + k + n ≤ b.length
        · rw [if_neg (by simp; omega), if_pos ⟨by omega, hr⟩]
          rw [w64_small (n := (i : Int) + (k : Int)) (by omega) (by omega), w64_small (n := (i : Int) + (k : Int) + (n : Int)) (by omega) (by omega), w64_small (n := (k : Int) + (n : Int)) (by omega) (by omega), w64_small (by omega) (by omega)]
          rw [show ((i : Int) + (k : Int) + (n : Int)) = ((i + k + n : Nat) : Int) by omega, show ((i : Int) + (k : Int)) = ((i + k : Nat) : Int) by omega, cut_eq (by omega) hr, Option.bind_some]
          have hl : ((b.take (i + k + n)).drop (i + k)).length ≤ b.length := by rw [List.length_drop, List.length_take]; omega
          rw [if_pos ⟨by unfold fits; simp only [List.length_nil]; omega, by simp only [List.length_nil]; omega⟩, List.nil_append]
          have e : (b.take (i + k + n)).drop (i + k) = (b.drop (i + k)).take n := by rw [List.drop_take]; congr 1; omega
          rw [e, show (i : Int) + ((k : Int) + (n : Int)) = ((i + k + n : Nat) : Int) by omega]
        · rw [if_pos (by simp; omega), if_neg (by omega)]
/-- A packet that stands there is read by the document, too. -/
theorem refTakeP_ok {b r : List UInt8} {i : Nat} {p : api_Packet} (h : b.length ≤ 140737488351300) (hi : i ≤ b.length) (hp : Pok p) (hb : b.drop i = pkL p ++ r) : haulierref01_TakePacket (rref b i false) = some (p, true, rref b (i + (pkL p).length) false) := by
  have hl := congrArg List.length hb
  rw [List.length_drop, List.length_append] at hl
  have hpl : 1 ≤ (pkL p).length := by unfold pkL; simp
  have hcut : cut b (i : Int) ((i + (pkL p).length : Nat) : Int) = some (pkL p) := by
    rw [cut_eq (by omega) (by omega)]
    congr 1
    rw [List.drop_take, Nat.add_sub_cancel_left, hb, List.take_left]
  have hpl2 := refPlain_ok hp
  have hkl : (pkL p).length = 1 + (vsize p.Path + (vsize p.Number + (pkTail p).length)) := by
    unfold pkL
    simp only [List.length_cons, List.length_append, vput_length]; omega
  have fin : ∀ (s : haulierref01_Reader) (q : api_Packet), s = rref b (i + (pkL p).length) false → q = p →
      ((haulierref01_Plain q).bind fun x => if s.Bad = true then some ((pk0 : api_Packet), false, (⟨s.B, s.At, s.Bad⟩ : haulierref01_Reader)) else if x.2 = true then (cut s.B (i : Int) s.At).bind fun y155 => if (x.1 == y155) = true then some (q, true, (⟨s.B, s.At, s.Bad⟩ : haulierref01_Reader)) else some (pk0, false, ⟨s.B, s.At, s.Bad⟩) else some (pk0, false, ⟨s.B, s.At, s.Bad⟩)) = some (p, true, rref b (i + (pkL p).length) false) := fun s q hs hq => by
    subst hs hq
    rw [hpl2, Option.bind_some]
    simp only []
    rw [if_neg (by decide), if_pos trivial, hcut, Option.bind_some, if_pos (by simp)]
  obtain ⟨kd, pa, nu, of, fr, da, fi, se, li⟩ := p
  have hp' := hp
  obtain ⟨hp1, hp2, hp3, hp4, hp5⟩ := hp'
  have hb2 := hb
  unfold pkL at hb2
  simp only [List.cons_append, List.append_assoc] at hb2 hp1 hp2 hp3 hp4 hp5 hkl
  obtain ⟨q1, q2, q3⟩ := byteL_cons hb2
  obtain ⟨q4, q5, q6⟩ := numL_put (n := pa) (by omega) (by omega) q3
  obtain ⟨q7, q8, q9⟩ := numL_put (n := nu) (by omega) (by omega) q6
  unfold haulierref01_TakePacket
  rw [rByte_eq h hi, q1, Option.bind_some]
  simp only []
  rw [rNumber_eq h q2, q4, Option.bind_some]
  simp only []
  rw [rNumber_eq h q5, q7, Option.bind_some]
  simp only []
  have hu : ((u8of kd).toNat : Int) = kd := by
    unfold u8of
    rw [UInt8.toNat_ofNat']
    omega
  rw [hu]
  unfold pkTail at q9 hkl
  rcases hp5 with ⟨rfl, rfl, rfl, rfl, rfl, rfl, rfl⟩ | ⟨rfl, h1, h2, rfl, rfl, rfl, rfl, rfl⟩ | ⟨rfl, rfl, h1, h2, h3, h4, rfl, rfl⟩ | ⟨rfl, h1, h2, rfl, rfl, rfl, h3, h4, h5, h6⟩
  · rw [if_neg (by decide), if_neg (by decide), if_neg (by decide), Option.bind_some]
    refine fin _ _ ?_ rfl
    rw [hkl]
    show rref b _ false = _
    simp
    omega
  · rw [if_pos rfl] at q9 hkl
    simp only [vput_length] at hkl
    rw [if_pos rfl]
    obtain ⟨q10, q11, q12⟩ := numL_put (n := of) (by omega) (by omega) q9
    rw [rNumber_eq h q8, q10, Option.bind_some, Option.bind_some]
    refine fin _ _ ?_ rfl
    rw [hkl]
    show rref b _ false = _
    simp
    omega
  · rw [if_neg (by simp), if_pos rfl] at q9
    rw [if_neg (by simp), if_pos rfl] at hkl
    simp only [List.append_assoc] at q9
    simp only [List.length_append, vput_length, List.length_singleton] at hkl
    rw [if_neg (by decide), if_pos rfl]
    obtain ⟨q10, q11, q12⟩ := numL_put (n := fr) (by omega) (by omega) q9
    obtain ⟨q13, q14, q15⟩ := bytesL_put (m := 64) (by omega) (by omega) q12
    obtain ⟨q16, q17, q18⟩ := byteL_cons q15
    rw [rNumber_eq h q8, q10, Option.bind_some]
    simp only []
    rw [rBytes_eq h q11, q13, Option.bind_some]
    simp only []
    rw [rByte_eq h q14, q16, Option.bind_some]
    simp only []
    have hf2 : decide (((if fi = true then 1 else 0 : UInt8).toNat : Int) = 1) = fi := by cases fi <;> decide
    rw [hf2, Option.bind_some]
    refine fin _ _ ?_ rfl
    rw [hkl]
    show rref b _ false = _
    simp
    omega
  · rw [if_neg (by simp), if_neg (by simp), if_pos rfl] at q9
    rw [if_neg (by simp), if_neg (by simp), if_pos rfl] at hkl
    simp only [List.append_assoc] at q9
    simp only [List.length_append, vput_length] at hkl
    rw [if_neg (by decide), if_neg (by decide), if_pos rfl]
    obtain ⟨q10, q11, q12⟩ := numL_put (n := of) (by omega) (by omega) q9
    obtain ⟨q13, q14, q15⟩ := numL_put (n := se) (by omega) (by omega) q12
    obtain ⟨q16, q17, q18⟩ := numL_put (n := li) (by omega) (by omega) q15
    rw [rNumber_eq h q8, q10, Option.bind_some]
    simp only []
    rw [rNumber_eq h q11, q13, Option.bind_some]
    simp only []
    rw [rNumber_eq h q14, q16, Option.bind_some]
    simp only []
    rw [Option.bind_some]
    refine fin _ _ ?_ rfl
    rw [hkl]
    show rref b _ false = _
    simp
    omega
/-- What the document reads is a packet that stands there, or none. -/
theorem refTakeP_any {b : List UInt8} {i : Nat} (h : b.length ≤ 140737488351300) (hi : i ≤ b.length) : ∃ p ok s, haulierref01_TakePacket (rref b i false) = some (p, ok, toR s) ∧ Stands b i s ∧
    ((ok = false ∧ p = pk0) ∨ (ok = true ∧ Pok p ∧ b.drop i = pkL p ++ b.drop (i + (pkL p).length))) := by
  have fin : ∀ (s : span_Reader) (q : api_Packet), Stands b i s → ∃ p ok s', 
      ((haulierref01_Plain q).bind fun x => if (toR s).Bad = true then some ((pk0 : api_Packet), false, (⟨(toR s).B, (toR s).At, (toR s).Bad⟩ : haulierref01_Reader)) else if x.2 = true then (cut (toR s).B (i : Int) (toR s).At).bind fun y155 => if (x.1 == y155) = true then some (q, true, (⟨(toR s).B, (toR s).At, (toR s).Bad⟩ : haulierref01_Reader)) else some (pk0, false, ⟨(toR s).B, (toR s).At, (toR s).Bad⟩) else some (pk0, false, ⟨(toR s).B, (toR s).At, (toR s).Bad⟩)) = some (p, ok, toR s') ∧ Stands b i s' ∧
      ((ok = false ∧ p = pk0) ∨ (ok = true ∧ Pok p ∧ b.drop i = pkL p ++ b.drop (i + (pkL p).length))) := fun s q hs => by
    obtain ⟨j, bad, rfl, hij, hj⟩ := hs
    have st : Stands b i (rdr b j bad) := ⟨j, bad, rfl, hij, hj⟩
    by_cases hp : Pok q
    · rw [refPlain_ok hp, Option.bind_some]
      simp only []
      cases bad with
      | true => exact ⟨_, _, _, rfl, st, .inl ⟨rfl, rfl⟩⟩
      | false =>
        rw [if_neg (by decide), if_pos trivial, cut_eq hij hj, Option.bind_some]
        by_cases he : pkL q = (b.take j).drop i
        · rw [if_pos (by simpa using he)]
          refine ⟨_, _, _, rfl, st, .inr ⟨rfl, hp, ?_⟩⟩
          have hl := congrArg List.length he
          rw [List.length_drop, List.length_take] at hl
          rw [show i + (pkL q).length = j by omega, he, List.drop_take]
          have : b.drop j = (b.drop i).drop (j - i) := by rw [List.drop_drop]; congr 1; omega
          rw [this, List.take_append_drop]
        · rw [if_neg (by simpa using he)]
          exact ⟨_, _, _, rfl, st, .inl ⟨rfl, rfl⟩⟩
    · rw [refPlain_bad hp, Option.bind_some]
      simp only []
      cases bad with
      | true => exact ⟨_, _, _, rfl, st, .inl ⟨rfl, rfl⟩⟩
      | false => exact ⟨_, _, _, rfl, st, .inl ⟨rfl, rfl⟩⟩
  have trans : ∀ {j : Nat} {s : span_Reader}, i ≤ j → Stands b j s → Stands b i s := fun hj ⟨k, bad, e, h1, h2⟩ => ⟨k, bad, e, by omega, h2⟩
  unfold haulierref01_TakePacket
  rw [rByte_eq h hi, Option.bind_some]
  obtain ⟨j1, b1, e1, g1, g1'⟩ := byteL_stands (b := b) (i := i) false hi
  rw [e1]
  simp only []
  rw [rNumber_eq h g1', Option.bind_some]
  obtain ⟨j2, b2, e2, g2, g2'⟩ := numL_stands (b := b) (i := j1) b1 g1'
  rw [e2]
  simp only []
  rw [rNumber_eq h g2', Option.bind_some]
  obtain ⟨j3, b3, e3, g3, g3'⟩ := numL_stands (b := b) (i := j2) b2 g2'
  rw [e3]
  simp only []
  by_cases c2 : ((byteL b i false).1.toNat : Int) = 2
  · rw [if_pos c2, rNumber_eq h g3', Option.bind_some, Option.bind_some]
    exact fin _ _ (trans (by omega) (numL_stands b3 g3'))
  rw [if_neg c2]
  by_cases c3 : ((byteL b i false).1.toNat : Int) = 3
  · rw [if_pos c3, rNumber_eq h g3', Option.bind_some]
    obtain ⟨j4, b4, e4, g4, g4'⟩ := numL_stands (b := b) (i := j3) b3 g3'
    rw [e4]
    simp only []
    rw [rBytes_eq h g4', Option.bind_some]
    obtain ⟨j5, b5, e5, g5, g5'⟩ := bytesL_stands (b := b) (i := j4) b4 64 g4'
    rw [e5]
    simp only []
    rw [rByte_eq h g5', Option.bind_some, Option.bind_some]
    exact fin _ _ (trans (by omega) (byteL_stands b5 g5'))
  rw [if_neg c3]
  by_cases c4 : ((byteL b i false).1.toNat : Int) = 4
  · rw [if_pos c4, rNumber_eq h g3', Option.bind_some]
    obtain ⟨j4, b4, e4, g4, g4'⟩ := numL_stands (b := b) (i := j3) b3 g3'
    rw [e4]
    simp only []
    rw [rNumber_eq h g4', Option.bind_some]
    obtain ⟨j5, b5, e5, g5, g5'⟩ := numL_stands (b := b) (i := j4) b4 g4'
    rw [e5]
    simp only []
    rw [rNumber_eq h g5', Option.bind_some, Option.bind_some]
    exact fin _ _ (trans (by omega) (numL_stands b5 g5'))
  rw [if_neg c4, Option.bind_some]
  exact fin (rdr b j3 b3) _ ⟨j3, b3, rfl, by omega, g3'⟩
/-- The program and the document read alike. -/
theorem take_both {b : List UInt8} {i : Nat} (h : b.length ≤ 140737488351300) (hi : i ≤ b.length) : ∃ p ok s t, packet_Take (rdr b i false) = some (p, ok, s) ∧ haulierref01_TakePacket (rref b i false) = some (p, ok, t) ∧ (ok = true → s.at_ = t.At ∧ s.b_ = b ∧ t.B = b) ∧ Stands b i s ∧
    ((ok = false ∧ p = pk0) ∨ (ok = true ∧ Pok p ∧ b.drop i = pkL p ++ b.drop (i + (pkL p).length) ∧ s = rdr b (i + (pkL p).length) false ∧ t = rref b (i + (pkL p).length) false)) := by
  obtain ⟨p, ok, s, h1, h2, h3⟩ := Take_any h hi
  obtain ⟨q, is, t, r1, r2, r3⟩ := refTakeP_any h hi
  rcases h3 with ⟨rfl, rfl⟩ | ⟨rfl, h4, h5, rfl⟩
  · rcases r3 with ⟨rfl, rfl⟩ | ⟨rfl, r4, r5⟩
    · exact ⟨_, _, _, _, h1, r1, (fun h => by cases h), h2, .inl ⟨rfl, rfl⟩⟩
    · have := (Take_ok h hi r4 r5).1
      rw [h1] at this
      cases this
  · have := refTakeP_ok h hi h4 h5
    exact ⟨_, _, _, _, h1, this, fun _ => ⟨rfl, rfl, rfl⟩, h2, .inr ⟨rfl, h4, h5, rfl, rfl⟩⟩
end Go.Proofs.Ytgobccnphhljcaa
