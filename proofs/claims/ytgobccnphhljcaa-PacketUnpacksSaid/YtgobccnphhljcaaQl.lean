/- What the printed functions compute, in plain Lean: packets that are read. -/
import Derived.Test.YtgobccnphhljcaaQk
namespace Go.Proofs.Ytgobccnphhljcaa
set_option linter.unusedVariables false

/-- What is read of a number is as it was put. -/
theorem vtake_sound {b : List UInt8} {n k : Nat} (h : vtake b = some (n, k)) : b = vput (n : Int) ++ b.drop k ∧ k = vsize (n : Int) := by
  cases b with
  | nil => cases h
  | cons c r =>
    by_cases hl : (c :: r).length < vlen c
    · rw [vtake_short hl] at h; cases h
    · rw [vtake_long hl] at h
      split at h
      · rename_i he
        injection h with h; injection h with h1 h2
        subst h1 h2
        refine ⟨?_, ?_⟩
        · rw [he, List.take_append_drop]
        · have := congrArg List.length he
          rw [vput_length, List.length_take] at this
          omega
      · cases h
/-- A byte is read. -/
def byteL (b : List UInt8) (i : Nat) (bad : Bool) : UInt8 × span_Reader :=
  if bad = true then (0, rdr b i true) else match b[i]? with
  | none => (0, rdr b i true)
  | some x => (x, rdr b (i + 1) false)
/-- A number is read. -/
def numL (b : List UInt8) (i : Nat) (bad : Bool) : Int × span_Reader :=
  if bad = true then (0, rdr b i true) else match vtake (b.drop i) with
  | none => (0, rdr b i true)
  | some (n, k) => ((n : Int), rdr b (i + k) false)
theorem Byte_eq {b : List UInt8} {i : Nat} {bad : Bool} (h : b.length ≤ 140737488351300) (hi : i ≤ b.length) : span_Reader_Byte (rdr b i bad) = some (byteL b i bad) := by
  unfold span_Reader_Byte byteL
  cases bad with
  | true => rfl
  | false =>
    rw [if_neg (show ¬ (rdr b i false).bad_ = true from Bool.false_ne_true), if_neg (by decide)]
    show ((span_Reader_Left (rdr b i false)).bind _).bind _ = _
    rw [Left_eq h hi, Option.bind_some]
    simp only []
    rw [Option.bind_some]
    simp only []
    by_cases hl : i < b.length
    · rw [if_neg (by simp; omega), w64_small (n := (i : Int) + 1) (by omega) (by omega), w64_small (by omega) (by omega)]
      rw [show (i : Int) + 1 - 1 = (i : Int) by omega, idx, if_pos (by omega), Int.toNat_natCast, List.getElem?_eq_getElem hl, Option.bind_some]
      rfl
    · rw [if_pos (by simp; omega), List.getElem?_eq_none (by omega)]
theorem Number_eq {b : List UInt8} {i : Nat} {bad : Bool} (h : b.length ≤ 140737488351300) (hi : i ≤ b.length) : span_Reader_Number (rdr b i bad) = some (numL b i bad) := by
  unfold span_Reader_Number numL
  rw [show (rdr b i bad).b_ = b from rfl, show (rdr b i bad).at_ = (i : Int) from rfl, show (rdr b i bad).bad_ = bad from rfl, cut_rest hi, Option.bind_some, Take_eq, Option.bind_some]
  cases bad with
  | true =>
    generalize takenL (b.drop i) = q
    obtain ⟨x10, x11, x12⟩ := q
    rfl
  | false =>
    unfold takenL
    cases hv : vtake (b.drop i) with
    | none => rfl
    | some q =>
      obtain ⟨n, k⟩ := q
      obtain ⟨h1, h2, h3, h4⟩ := vtake_le hv
      rw [List.length_drop] at h1
      simp only []
      rw [if_neg (show ¬ false = true by decide), Option.bind_some]
      simp only []
      rw [if_neg (by decide), if_neg (by decide), w64_small (by omega) (by omega), show (i : Int) + (k : Int) = ((i + k : Nat) : Int) by omega]
/-- A step of a reader: it stands where it may. -/
def Stands (b : List UInt8) (i : Nat) (s : span_Reader) : Prop := ∃ (j : Nat) (bad : Bool), s = rdr b j bad ∧ i ≤ j ∧ j ≤ b.length
theorem byteL_stands {b : List UInt8} {i : Nat} (bad : Bool) (hi : i ≤ b.length) : Stands b i (byteL b i bad).2 := by
  unfold byteL
  split
  · exact ⟨i, true, rfl, Nat.le_refl _, hi⟩
  · split
    · exact ⟨i, true, rfl, Nat.le_refl _, hi⟩
    · rename_i x hx
      exact ⟨i + 1, false, rfl, by omega, (List.getElem?_eq_some_iff.1 hx).1⟩
theorem numL_stands {b : List UInt8} {i : Nat} (bad : Bool) (hi : i ≤ b.length) : Stands b i (numL b i bad).2 := by
  unfold numL
  split
  · exact ⟨i, true, rfl, Nat.le_refl _, hi⟩
  · split
    · exact ⟨i, true, rfl, Nat.le_refl _, hi⟩
    · rename_i n k hv
      obtain ⟨h1, _⟩ := vtake_le hv
      rw [List.length_drop] at h1
      exact ⟨i + k, false, rfl, by omega, by omega⟩
theorem bytesL_stands {b : List UInt8} {i : Nat} (bad : Bool) (m : Int) (hi : i ≤ b.length) : Stands b i (bytesL b i bad m).2 := by
  unfold bytesL
  split
  · exact ⟨i, true, rfl, Nat.le_refl _, hi⟩
  · split
    · exact ⟨i, true, rfl, Nat.le_refl _, hi⟩
    · split
      · rename_i n k hv h
        exact ⟨_, false, rfl, by omega, by omega⟩
      · exact ⟨i, true, rfl, Nat.le_refl _, hi⟩
/-- What was read, where all was well. -/
theorem byteL_good {b : List UInt8} {i j : Nat} {bad : Bool} (h : (byteL b i bad).2 = rdr b j false) : bad = false ∧ j = i + 1 ∧ b.drop i = (byteL b i bad).1 :: b.drop j := by
  unfold byteL at h ⊢
  cases bad with
  | true => simp at h
  | false =>
    simp only [Bool.false_eq_true, if_false] at h ⊢
    cases hx : b[i]? with
    | none => rw [hx] at h; simp at h
    | some x =>
      rw [hx] at h
      simp only [rdr, span_Reader.mk.injEq] at h
      obtain ⟨hl, he⟩ := List.getElem?_eq_some_iff.1 hx
      obtain rfl : j = i + 1 := by omega
      exact ⟨trivial, rfl, by rw [← he]; exact List.drop_eq_getElem_cons hl⟩
theorem numL_good {b : List UInt8} {i j : Nat} {bad : Bool} (h : (numL b i bad).2 = rdr b j false) : bad = false ∧ b.drop i = vput (numL b i bad).1 ++ b.drop j := by
  unfold numL at h ⊢
  cases bad with
  | true => simp at h
  | false =>
    simp only [Bool.false_eq_true, if_false] at h ⊢
    cases hv : vtake (b.drop i) with
    | none => rw [hv] at h; simp at h
    | some q =>
      obtain ⟨n, k⟩ := q
      rw [hv] at h
      simp only [rdr, span_Reader.mk.injEq] at h
      obtain rfl : j = i + k := by omega
      refine ⟨trivial, ?_⟩
      have := (vtake_sound hv).1
      rw [List.drop_drop] at this
      exact this
theorem bytesL_good {b : List UInt8} {i j : Nat} {bad : Bool} {m : Int} (hi : i ≤ b.length) (h : (bytesL b i bad m).2 = rdr b j false) : bad = false ∧ b.drop i = spanL (bytesL b i bad m).1 ++ b.drop j := by
  unfold bytesL at h ⊢
  cases bad with
  | true => simp at h
  | false =>
    simp only [Bool.false_eq_true, if_false] at h ⊢
    cases hv : vtake (b.drop i) with
    | none => rw [hv] at h; simp at h
    | some q =>
      obtain ⟨n, k⟩ := q
      rw [hv] at h
      simp only [] at h ⊢
      split at h
      · rename_i hc
        simp only [rdr, span_Reader.mk.injEq] at h
        obtain rfl : j = i + k + n := by omega
        refine ⟨trivial, ?_⟩
        rw [if_pos hc]
        simp only []
        have h1 := (vtake_sound hv).1
        rw [List.drop_drop] at h1
        rw [h1]
        unfold spanL
        have hl : ((b.drop (i + k)).take n).length = n := by rw [List.length_take, List.length_drop]; omega
        have e2 : b.drop (i + k + n) = (b.drop (i + k)).drop n := by rw [List.drop_drop]
        rw [hl, List.append_assoc, e2, List.take_append_drop]
      · simp at h
/-- What stands there is read. -/
theorem byteL_cons {b r : List UInt8} {i : Nat} {x : UInt8} (h : b.drop i = x :: r) : byteL b i false = (x, rdr b (i + 1) false) ∧ i + 1 ≤ b.length ∧ b.drop (i + 1) = r := by
  have hl := congrArg List.length h
  rw [List.length_drop, List.length_cons] at hl
  have hx : b[i]? = some x := by
    have := congrArg (·[0]?) h
    simpa [List.getElem?_drop] using this
  unfold byteL
  rw [hx]
  refine ⟨rfl, by omega, ?_⟩
  rw [← List.drop_drop, h]; rfl
theorem numL_put {b r : List UInt8} {i : Nat} {n : Int} (h0 : 0 ≤ n) (h1 : n ≤ 4611686018427387903) (h : b.drop i = vput n ++ r) : numL b i false = (n, rdr b (i + vsize n) false) ∧ i + vsize n ≤ b.length ∧ b.drop (i + vsize n) = r := by
  obtain ⟨m, rfl⟩ := Int.eq_ofNat_of_zero_le h0
  have hl := congrArg List.length h
  have hpos : 1 ≤ vsize (m : Int) := by rcases vsize_cases (m : Int) with ⟨_, h⟩ | ⟨_, _, h⟩ <;> omega
  rw [List.length_drop, List.length_append, vput_length] at hl
  unfold numL
  rw [h, vtake_vput (by omega)]
  refine ⟨rfl, by omega, ?_⟩
  rw [← List.drop_drop, h, List.drop_append_of_le_length (by rw [vput_length]; omega), List.drop_of_length_le (by rw [vput_length]; omega), List.nil_append]
theorem bytesL_put {b r x : List UInt8} {i : Nat} {m : Int} (hx : (x.length : Int) ≤ m) (hx2 : x.length ≤ 1000000) (h : b.drop i = spanL x ++ r) : bytesL b i false m = (x, rdr b (i + (spanL x).length) false) ∧ i + (spanL x).length ≤ b.length ∧ b.drop (i + (spanL x).length) = r := by
  have hl := congrArg List.length h
  have hsl := spanL_length x
  have hpos : 1 ≤ vsize (x.length : Int) := by rcases vsize_cases (x.length : Int) with ⟨_, h⟩ | ⟨_, _, h⟩ <;> omega
  rw [List.length_drop, List.length_append] at hl
  have hd : b.drop (i + (spanL x).length) = r := by rw [← List.drop_drop, h, List.drop_left]
  refine ⟨?_, by omega, hd⟩
  unfold bytesL
  have h2 := h
  unfold spanL at h2
  rw [List.append_assoc] at h2
  rw [h2, vtake_vput (by omega)]
  simp only [Bool.false_eq_true, if_false]
  rw [if_pos ⟨hx, by omega⟩]
  have e : (b.drop (i + vsize (x.length : Int))).take x.length = x := by
    rw [← List.drop_drop, h2, List.drop_append_of_le_length (by rw [vput_length]; omega), List.drop_of_length_le (by rw [vput_length]; omega), List.nil_append, List.take_left]
  rw [e, hsl, Nat.add_assoc]
theorem Bad_eq (b : List UInt8) (i : Nat) (bad : Bool) : span_Reader_Bad (rdr b i bad) = some (bad, rdr b i bad) := rfl
abbrev pk0 : api_Packet := ⟨0, 0, 0, 0, 0, [], false, 0, 0⟩
/-- A packet that stands there is read. -/
theorem Take_ok {b r : List UInt8} {i : Nat} {p : api_Packet} (h : b.length ≤ 140737488351300) (hi : i ≤ b.length) (hp : Pok p) (hb : b.drop i = pkL p ++ r) : packet_Take (rdr b i false) = some (p, true, rdr b (i + (pkL p).length) false) ∧ i + (pkL p).length ≤ b.length ∧ b.drop (i + (pkL p).length) = r := by
  have hl := congrArg List.length hb
  rw [List.length_drop, List.length_append] at hl
  have hpl : 1 ≤ (pkL p).length := by unfold pkL; simp
  refine ⟨?_, by omega, by rw [← List.drop_drop, hb, List.drop_left]⟩
  obtain ⟨kd, pa, nu, of, fr, da, fi, se, li⟩ := p
  have hp' := hp
  obtain ⟨hp1, hp2, hp3, hp4, hp5⟩ := hp'
  unfold pkL at hb hpl ⊢
  simp only [List.cons_append, List.append_assoc] at hb hpl hp1 hp2 hp3 hp4 hp5 ⊢
  obtain ⟨q1, q2, q3⟩ := byteL_cons hb
  obtain ⟨q4, q5, q6⟩ := numL_put (n := pa) (by omega) (by omega) q3
  obtain ⟨q7, q8, q9⟩ := numL_put (n := nu) (by omega) (by omega) q6
  unfold packet_Take
  rw [Byte_eq h hi, q1, Option.bind_some]
  simp only []
  rw [Number_eq h q2, q4, Option.bind_some]
  simp only []
  rw [Number_eq h q5, q7, Option.bind_some]
  simp only []
  have hu : ((u8of kd).toNat : Int) = kd := by
    unfold u8of
    rw [UInt8.toNat_ofNat']
    omega
  rw [hu]
  unfold pkTail at q9 ⊢
  simp only [List.length_cons, List.length_append, vput_length]
  rcases hp5 with ⟨rfl, rfl, rfl, rfl, rfl, rfl, rfl⟩ | ⟨rfl, h1, h2, rfl, rfl, rfl, rfl, rfl⟩ | ⟨rfl, rfl, h1, h2, h3, h4, rfl, rfl⟩ | ⟨rfl, h1, h2, rfl, rfl, rfl, h3, h4, h5, h6⟩
  · rw [if_neg (by decide), if_neg (by decide), if_neg (by decide), Bad_eq, Option.bind_some]
    simp only []
    rw [if_neg (by decide), Check_eq, if_pos hp, Option.bind_some, if_neg (by decide)]
    congr 4
    simp
    omega
  · simp only [if_pos] at q9
    rw [if_pos rfl, if_pos rfl]
    obtain ⟨q10, q11, q12⟩ := numL_put (n := of) (by omega) (by omega) q9
    rw [Number_eq h q8, q10, Option.bind_some]
    simp only []
    rw [Bad_eq, Option.bind_some]
    simp only []
    rw [if_neg (by decide), Check_eq, if_pos hp, Option.bind_some, if_neg (by decide), vput_length]
    congr 4
    omega
  · rw [if_neg (by simp), if_pos rfl] at q9
    simp only [List.append_assoc] at q9
    rw [if_neg (by decide), if_pos rfl]
    obtain ⟨q10, q11, q12⟩ := numL_put (n := fr) (by omega) (by omega) q9
    obtain ⟨q13, q14, q15⟩ := bytesL_put (m := 64) (by omega) (by omega) q12
    obtain ⟨q16, q17, q18⟩ := byteL_cons q15
    rw [Number_eq h q8, q10, Option.bind_some]
    simp only []
    rw [Bytes_eq h q11, q13, Option.bind_some]
    simp only []
    rw [Byte_eq h q14, q16, Option.bind_some]
    simp only []
    have hf1 : ¬ (1 : Int) < ((if fi = true then 1 else 0 : UInt8).toNat : Int) := by cases fi <;> decide
    have hf2 : decide (((if fi = true then 1 else 0 : UInt8).toNat : Int) = 1) = fi := by cases fi <;> decide
    rw [if_neg hf1, Bad_eq, Option.bind_some]
    simp only []
    rw [if_neg (by decide), hf2, Check_eq, if_pos hp, Option.bind_some, if_neg (by decide)]
    rw [if_neg (by decide), if_pos trivial]
    simp only [List.length_append, vput_length, List.length_singleton]
    congr 4
    omega
  · rw [if_neg (by simp), if_neg (by simp), if_pos rfl] at q9
    simp only [List.append_assoc] at q9
    rw [if_neg (by decide), if_neg (by decide), if_pos rfl]
    obtain ⟨q10, q11, q12⟩ := numL_put (n := of) (by omega) (by omega) q9
    obtain ⟨q13, q14, q15⟩ := numL_put (n := se) (by omega) (by omega) q12
    obtain ⟨q16, q17, q18⟩ := numL_put (n := li) (by omega) (by omega) q15
    rw [Number_eq h q8, q10, Option.bind_some]
    simp only []
    rw [Number_eq h q11, q13, Option.bind_some]
    simp only []
    rw [Number_eq h q14, q16, Option.bind_some]
    simp only []
    rw [Bad_eq, Option.bind_some]
    simp only []
    rw [if_neg (by decide), Check_eq, if_pos hp, Option.bind_some, if_neg (by decide)]
    rw [if_neg (by decide), if_neg (by decide), if_pos trivial]
    simp only [List.length_append, vput_length]
    congr 4
    omega
theorem u8_back (x : UInt8) : u8of (x.toNat : Int) = x := by
  unfold u8of
  have := x.toNat_lt
  apply UInt8.toNat.inj
  rw [UInt8.toNat_ofNat']
  omega
/-- What is read is a packet that stands there, or none. -/
theorem Take_any {b : List UInt8} {i : Nat} (h : b.length ≤ 140737488351300) (hi : i ≤ b.length) : ∃ p ok s, packet_Take (rdr b i false) = some (p, ok, s) ∧ Stands b i s ∧
    ((ok = false ∧ p = pk0) ∨ (ok = true ∧ Pok p ∧ b.drop i = pkL p ++ b.drop (i + (pkL p).length) ∧ s = rdr b (i + (pkL p).length) false)) := by
  unfold packet_Take
  rw [Byte_eq h hi, Option.bind_some]
  obtain ⟨j1, b1, e1, g1, g1'⟩ := byteL_stands (b := b) (i := i) false hi
  have k1 := fun j => byteL_good (b := b) (i := i) (j := j) (bad := false)
  generalize byteL b i false = q at *
  obtain ⟨x1, s1⟩ := q
  simp only [] at e1 k1 ⊢
  subst e1
  rw [Number_eq h g1', Option.bind_some]
  obtain ⟨j2, b2, e2, g2, g2'⟩ := numL_stands (b := b) (i := j1) b1 g1'
  have k2 := fun j => numL_good (b := b) (i := j1) (j := j) (bad := b1)
  generalize numL b j1 b1 = q at *
  obtain ⟨x2, s2⟩ := q
  simp only [] at e2 k2 ⊢
  subst e2
  rw [Number_eq h g2', Option.bind_some]
  obtain ⟨j3, b3, e3, g3, g3'⟩ := numL_stands (b := b) (i := j2) b2 g2'
  have k3 := fun j => numL_good (b := b) (i := j2) (j := j) (bad := b2)
  generalize numL b j2 b2 = q at *
  obtain ⟨x3, s3⟩ := q
  simp only [] at e3 k3 ⊢
  subst e3
  have head : b3 = false → b.drop i = x1 :: (vput x2 ++ (vput x3 ++ b.drop j3)) := fun e => by
    subst e
    obtain ⟨rfl, h3⟩ := k3 j3 rfl
    obtain ⟨rfl, h2⟩ := k2 j2 rfl
    obtain ⟨_, _, h1⟩ := k1 j1 rfl
    rw [h1, h2, h3]
  have fin : ∀ (p : api_Packet) (j : Nat) (r : List UInt8), i ≤ j → j ≤ b.length → u8of p.Kind = x1 → p.Path = x2 → p.Number = x3 → b3 = false → b.drop j3 = pkTail p ++ b.drop j → b.drop i = pkL p ++ b.drop (i + (pkL p).length) ∧ rdr b j false = rdr b (i + (pkL p).length) false := fun p j r h1 h2 a1 a2 a3 hb3 htl => by
    have h0 := head hb3
    have e : b.drop i = pkL p ++ b.drop j := by
      rw [h0, htl]
      unfold pkL
      rw [a1, a2, a3]
      simp only [List.cons_append, List.append_assoc]
    have hl := congrArg List.length e
    rw [List.length_drop, List.length_append, List.length_drop] at hl
    have ej : j = i + (pkL p).length := by omega
    rw [← ej]
    exact ⟨e, rfl⟩
  have hk : u8of (x1.toNat : Int) = x1 := u8_back x1
  by_cases c2 : (x1.toNat : Int) = 2
  · rw [if_pos c2, Number_eq h g3', Option.bind_some]
    obtain ⟨j4, b4, e4, g4, g4'⟩ := numL_stands (b := b) (i := j3) b3 g3'
    have k4 := fun j => numL_good (b := b) (i := j3) (j := j) (bad := b3)
    generalize numL b j3 b3 = q at *
    obtain ⟨x4, s4⟩ := q
    simp only [] at e4 k4 ⊢
    subst e4
    rw [Bad_eq, Option.bind_some]
    simp only []
    have st : Stands b i (rdr b j4 b4) := ⟨j4, b4, rfl, by omega, g4'⟩
    cases b4 with
    | true => exact ⟨_, _, _, rfl, st, .inl ⟨rfl, rfl⟩⟩
    | false =>
      rw [if_neg (by decide), Check_eq, Option.bind_some]
      by_cases hp : Pok ⟨(x1.toNat : Int), x2, x3, x4, 0, [], false, 0, 0⟩
      · rw [if_pos hp, if_neg (by decide)]
        obtain ⟨hb3, h4⟩ := k4 j4 rfl
        obtain ⟨f1, f2⟩ := fin ⟨(x1.toNat : Int), x2, x3, x4, 0, [], false, 0, 0⟩ j4 [] (by omega) g4' hk rfl rfl hb3 (by unfold pkTail; rw [if_pos c2]; exact h4)
        exact ⟨_, _, _, rfl, st, .inr ⟨rfl, hp, f1, f2⟩⟩
      · rw [if_neg hp, if_pos (by decide)]
        exact ⟨_, _, _, rfl, st, .inl ⟨rfl, rfl⟩⟩
  rw [if_neg c2]
  by_cases c3 : (x1.toNat : Int) = 3
  · rw [if_pos c3, Number_eq h g3', Option.bind_some]
    obtain ⟨j4, b4, e4, g4, g4'⟩ := numL_stands (b := b) (i := j3) b3 g3'
    have k4 := fun j => numL_good (b := b) (i := j3) (j := j) (bad := b3)
    generalize numL b j3 b3 = q at *
    obtain ⟨x4, s4⟩ := q
    simp only [] at e4 k4 ⊢
    subst e4
    rw [Bytes_eq h g4', Option.bind_some]
    obtain ⟨j5, b5, e5, g5, g5'⟩ := bytesL_stands (b := b) (i := j4) b4 64 g4'
    have k5 := fun j => bytesL_good (b := b) (i := j4) (j := j) (bad := b4) (m := 64) g4'
    generalize bytesL b j4 b4 64 = q at *
    obtain ⟨x5, s5⟩ := q
    simp only [] at e5 k5 ⊢
    subst e5
    rw [Byte_eq h g5', Option.bind_some]
    obtain ⟨j6, b6, e6, g6, g6'⟩ := byteL_stands (b := b) (i := j5) b5 g5'
    have k6 := fun j => byteL_good (b := b) (i := j5) (j := j) (bad := b5)
    generalize byteL b j5 b5 = q at *
    obtain ⟨x6, s6⟩ := q
    simp only [] at e6 k6 ⊢
    subst e6
    have st : Stands b i (rdr b j6 b6) := ⟨j6, b6, rfl, by omega, g6'⟩
    by_cases c6 : 1 < (x6.toNat : Int)
    · rw [if_pos c6]
      exact ⟨_, _, _, rfl, st, .inl ⟨rfl, rfl⟩⟩
    rw [if_neg c6, Bad_eq, Option.bind_some]
    simp only []
    cases b6 with
    | true => exact ⟨_, _, _, rfl, st, .inl ⟨rfl, rfl⟩⟩
    | false =>
      rw [if_neg (by decide), Check_eq, Option.bind_some]
      by_cases hp : Pok ⟨(x1.toNat : Int), x2, x3, 0, x4, x5, decide ((x6.toNat : Int) = 1), 0, 0⟩
      · rw [if_pos hp, if_neg (by decide)]
        obtain ⟨hb5, _, h6⟩ := k6 j6 rfl
        subst hb5
        obtain ⟨hb4, h5⟩ := k5 j5 rfl
        subst hb4
        obtain ⟨hb3, h4⟩ := k4 j4 rfl
        have ex : (if decide ((x6.toNat : Int) = 1) = true then 1 else 0 : UInt8) = x6 := by
          by_cases c : (x6.toNat : Int) = 1
          · rw [if_pos (by simpa using c)]; exact UInt8.toNat.inj (show 1 = x6.toNat by omega)
          · rw [if_neg (by simpa using c)]; exact UInt8.toNat.inj (show 0 = x6.toNat by omega)
        obtain ⟨f1, f2⟩ := fin ⟨(x1.toNat : Int), x2, x3, 0, x4, x5, decide ((x6.toNat : Int) = 1), 0, 0⟩ j6 [] (by omega) g6' hk rfl rfl hb3 (by
          unfold pkTail
          simp only []
          rw [if_neg c2, if_pos c3, ex, h4, h5, h6]
          simp only [List.append_assoc, List.singleton_append])
        exact ⟨_, _, _, rfl, st, .inr ⟨rfl, hp, f1, f2⟩⟩
      · rw [if_neg hp, if_pos (by decide)]
        exact ⟨_, _, _, rfl, st, .inl ⟨rfl, rfl⟩⟩
  rw [if_neg c3]
  by_cases c4 : (x1.toNat : Int) = 4
  · rw [if_pos c4, Number_eq h g3', Option.bind_some]
    obtain ⟨j4, b4, e4, g4, g4'⟩ := numL_stands (b := b) (i := j3) b3 g3'
    have k4 := fun j => numL_good (b := b) (i := j3) (j := j) (bad := b3)
    generalize numL b j3 b3 = q at *
    obtain ⟨x4, s4⟩ := q
    simp only [] at e4 k4 ⊢
    subst e4
    rw [Number_eq h g4', Option.bind_some]
    obtain ⟨j5, b5, e5, g5, g5'⟩ := numL_stands (b := b) (i := j4) b4 g4'
    have k5 := fun j => numL_good (b := b) (i := j4) (j := j) (bad := b4)
    generalize numL b j4 b4 = q at *
    obtain ⟨x5, s5⟩ := q
    simp only [] at e5 k5 ⊢
    subst e5
    rw [Number_eq h g5', Option.bind_some]
    obtain ⟨j6, b6, e6, g6, g6'⟩ := numL_stands (b := b) (i := j5) b5 g5'
    have k6 := fun j => numL_good (b := b) (i := j5) (j := j) (bad := b5)
    generalize numL b j5 b5 = q at *
    obtain ⟨x6, s6⟩ := q
    simp only [] at e6 k6 ⊢
    subst e6
    rw [Bad_eq, Option.bind_some]
    simp only []
    have st : Stands b i (rdr b j6 b6) := ⟨j6, b6, rfl, by omega, g6'⟩
    cases b6 with
    | true => exact ⟨_, _, _, rfl, st, .inl ⟨rfl, rfl⟩⟩
    | false =>
      rw [if_neg (by decide), Check_eq, Option.bind_some]
      by_cases hp : Pok ⟨(x1.toNat : Int), x2, x3, x4, 0, [], false, x5, x6⟩
      · rw [if_pos hp, if_neg (by decide)]
        obtain ⟨hb5, h6⟩ := k6 j6 rfl
        subst hb5
        obtain ⟨hb4, h5⟩ := k5 j5 rfl
        subst hb4
        obtain ⟨hb3, h4⟩ := k4 j4 rfl
        obtain ⟨f1, f2⟩ := fin ⟨(x1.toNat : Int), x2, x3, x4, 0, [], false, x5, x6⟩ j6 [] (by omega) g6' hk rfl rfl hb3 (by
          unfold pkTail
          simp only []
          rw [if_neg c2, if_neg c3, if_pos c4, h4, h5, h6]
          simp only [List.append_assoc])
        exact ⟨_, _, _, rfl, st, .inr ⟨rfl, hp, f1, f2⟩⟩
      · rw [if_neg hp, if_pos (by decide)]
        exact ⟨_, _, _, rfl, st, .inl ⟨rfl, rfl⟩⟩
  rw [if_neg c4, Bad_eq, Option.bind_some]
  simp only []
  have st : Stands b i (rdr b j3 b3) := ⟨j3, b3, rfl, by omega, g3'⟩
  cases b3 with
  | true => exact ⟨_, _, _, rfl, st, .inl ⟨rfl, rfl⟩⟩
  | false =>
    rw [if_neg (by decide), Check_eq, Option.bind_some]
    by_cases hp : Pok ⟨(x1.toNat : Int), x2, x3, 0, 0, [], false, 0, 0⟩
    · rw [if_pos hp, if_neg (by decide)]
      obtain ⟨f1, f2⟩ := fin ⟨(x1.toNat : Int), x2, x3, 0, 0, [], false, 0, 0⟩ j3 [] (by omega) g3' hk rfl rfl rfl (by
        unfold pkTail
        simp only []
        rw [if_neg c2, if_neg c3, if_neg c4, List.nil_append])
      exact ⟨_, _, _, rfl, st, .inr ⟨rfl, hp, f1, f2⟩⟩
    · rw [if_neg hp, if_pos (by decide)]
      exact ⟨_, _, _, rfl, st, .inl ⟨rfl, rfl⟩⟩
theorem New_eq {b : List UInt8} (h : b.length ≤ 140737488351300) : span_New b = some (rdr b 0 false) := by
  unfold span_New bytes_Clone
  rw [if_pos (by simp [lim14]; omega)]; rfl
/-- Packets are told apart by their bytes. -/
theorem pkL_inj {p q : api_Packet} {r s : List UInt8} (hp : Pok p) (hq : Pok q) (h : pkL p ++ r = pkL q ++ s) (hl : (pkL p ++ r).length ≤ 140737488351300) : p = q ∧ r = s := by
  have h1 := Take_ok (b := pkL p ++ r) (i := 0) (p := p) (r := r) hl (Nat.zero_le _) hp rfl
  have h2 := Take_ok (b := pkL p ++ r) (i := 0) (p := q) (r := s) hl (Nat.zero_le _) hq h
  have h3 := h1.1
  rw [h2.1] at h3
  have e : q = p := by injection h3 with h3; exact congrArg Prod.fst h3
  subst e
  exact ⟨rfl, List.append_cancel_left h⟩
end Go.Proofs.Ytgobccnphhljcaa
