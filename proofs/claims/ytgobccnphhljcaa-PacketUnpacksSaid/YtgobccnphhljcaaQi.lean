/- What the printed functions compute, in plain Lean: the document's number; units that are cut, or turned. -/
import Derived.Test.YtgobccnphhljcaaQg
import Derived.Test.YtgobccnphhljcaaPc
namespace Go.Proofs.Ytgobccnphhljcaa
set_option linter.unusedVariables false

theorem cut0 {l : List UInt8} {b : Nat} (h : b ≤ l.length) : cut l 0 (b : Int) = some (l.take b) := by
  have := cut_eq (Nat.zero_le b) h
  rw [List.drop_zero] at this
  exact this
theorem unbe_split (y : List UInt8) : ∀ a, unbe a y = a * 256 ^ y.length + unbe 0 y := by
  induction y with
  | nil => intro a; simp [unbe]
  | cons x y ih =>
    intro a
    have e : ∀ a, unbe a (x :: y) = unbe (256 * a + x.toNat) y := fun _ => rfl
    rw [e, e, ih, ih (256 * 0 + x.toNat), List.length_cons, Nat.pow_succ, Nat.add_mul, Nat.add_mul]
    generalize 256 ^ y.length = q
    rw [show 256 * a * q = a * (q * 256) by rw [Nat.mul_comm 256 a, Nat.mul_assoc, Nat.mul_comm 256 q]]
    omega
theorem unbe0_lt (y : List UInt8) : unbe 0 y < 256 ^ y.length := by
  have := unbe_lt y 0
  omega
theorem bigE_unbe : ∀ (y : List UInt8) (a : Nat), bigE y.length (unbe a y) = y
  | [], a => rfl
  | x :: y, a => by
    have e : unbe a (x :: y) = unbe (256 * a + x.toNat) y := rfl
    have hs := unbe_split y (256 * a + x.toNat)
    have hl := unbe0_lt y
    rw [List.length_cons, bigE, e, bigE_unbe y]
    congr 1
    rw [hs, Nat.mul_comm, Nat.mul_add_div (Nat.pow_pos (by decide)), Nat.div_eq_of_lt hl, Nat.add_zero]
    apply UInt8.toNat.inj
    simp
theorem mark_byte (c : UInt8) : (UInt8.ofNat (c.toNat % 64) ||| vmark (vlen c)) = c := by
  have h : ∀ n : Fin 256, (UInt8.ofNat ((UInt8.ofNat n.val).toNat % 64) ||| vmark (vlen (UInt8.ofNat n.val))) = UInt8.ofNat n.val := by decide +kernel
  have := h ⟨c.toNat, c.toNat_lt⟩
  simpa using this
/-- A number is as it was put, if its size is right. -/
theorem put_back {c : UInt8} {r : List UInt8} (hl : ¬ (c :: r).length < vlen c) (hs : vsize (unbe (c.toNat % 64) (r.take (vlen c - 1)) : Int) = vlen c) : vput (unbe (c.toNat % 64) (r.take (vlen c - 1)) : Int) = (c :: r).take (vlen c) := by
  have hv := vlen_le c
  obtain ⟨s, hs1⟩ : ∃ s, vlen c = s + 1 := ⟨vlen c - 1, by omega⟩
  have hm := mark_byte c
  rw [hs1] at hs hm ⊢
  rw [Nat.add_sub_cancel] at hs ⊢
  have hyl : (r.take s).length = s := by rw [List.length_take]; simp at hl; omega
  generalize hy : r.take s = y at *
  unfold vput
  rw [hs, Int.toNat_natCast]
  have hq : unbe (c.toNat % 64) y / 256 ^ s = c.toNat % 64 := by
    have h1 := unbe_split y (c.toNat % 64)
    have h2 := unbe0_lt y
    rw [hyl] at h1 h2
    rw [h1, Nat.mul_comm, Nat.mul_add_div (Nat.pow_pos (by decide)), Nat.div_eq_of_lt h2, Nat.add_zero]
  have hb : bigE s (unbe (c.toNat % 64) y) = y := by have := bigE_unbe y (c.toNat % 64); rw [hyl] at this; exact this
  rw [bigE, hq, hb, List.take_succ_cons, hy]
  show (UInt8.ofNat (c.toNat % 64) ||| vmark (s + 1)) :: y = c :: y
  rw [hm]
theorem refSize_eq (n : Int) : haulierref01_Size n = some (vsize n : Int) := by
  unfold haulierref01_Size vsize
  repeat' split
  all_goals first | rfl | (exfalso; omega)
theorem reftake_loop {c : UInt8} {r : List UInt8} {s : Nat} (hs : s + 1 ≤ 8) (hl : s ≤ r.length) : ∀ (k i : Nat), i ≤ s → s - i < k →
    haulierref01_Take_l0 (c :: r) ((s + 1 : Nat) : Int) k (unbe (c.toNat % 64) (r.take i) : Int) ((i + 1 : Nat) : Int) =
      if vsize (unbe (c.toNat % 64) (r.take s) : Int) = s + 1 then some ((unbe (c.toNat % 64) (r.take s) : Int), ((s + 1 : Nat) : Int), true) else some (0, 0, false)
  | 0, i, _, h => by omega
  | k + 1, i, h, hk => by
    unfold haulierref01_Take_l0
    by_cases hi : i < s
    · rw [if_pos (by omega)]
      have hx : (c :: r)[i + 1]? = some (r[i]'(by omega)) := by rw [List.getElem?_cons_succ, List.getElem?_eq_getElem (by omega)]
      rw [idx, if_pos (by omega), Int.toNat_natCast, hx, Option.bind_some, Option.bind_some]
      rw [or_byte _ _ (unbe_small (by omega) (by omega)), ← unbe_snoc _ r i r[i] (List.getElem?_eq_getElem (by omega)), w64_small (by omega) (by omega), show (((i + 1 : Nat) : Int) + 1) = ((i + 1 + 1 : Nat) : Int) by omega]
      exact reftake_loop hs hl k (i + 1) hi (by omega)
    · rw [if_neg (by omega), refSize_eq, Option.bind_some, show i = s by omega]
      by_cases h2 : vsize (unbe (c.toNat % 64) (r.take s) : Int) = s + 1
      · rw [if_neg (by omega), if_pos h2]
      · rw [if_pos (by omega), if_neg h2]
theorem and_mod64 (c : UInt8) : ((c % (64 : UInt8)).toNat : Int) = ((c.toNat % 64 : Nat) : Int) := by
  rw [UInt8.toNat_mod]; rfl
theorem vlen_eq2 (c : UInt8) : sl64 1 ((sr8 c 6).toUInt64.toNat : Int) = (vlen c : Int) := by
  rw [UInt8.toNat_toUInt64]; exact vlen_eq c
/-- The document's number is the program's. -/
theorem refTake_eq (b : List UInt8) : haulierref01_Take b = some (takenL b) := by
  unfold haulierref01_Take
  cases b with
  | nil => rfl
  | cons c r =>
    rw [if_neg (by simp; omega)]
    have h0 : idx (c :: r) 0 = some c := rfl
    rw [h0, Option.bind_some, Option.bind_some, vlen_eq2]
    have hv := vlen_le c
    unfold takenL
    by_cases h : (c :: r).length < vlen c
    · rw [if_pos (by omega), vtake_short h]
    · rw [if_neg (by omega), vtake_long h, Option.bind_some, and_mod64]
      obtain ⟨s, hs⟩ : ∃ s, vlen c = s + 1 := ⟨vlen c - 1, by omega⟩
      have hl : s ≤ r.length := by simp at h; omega
      have hr := reftake_loop (c := c) (r := r) (s := s) (by omega) hl bigN 0 (Nat.zero_le _) (by unfold bigN; omega)
      rw [List.take_zero, show unbe (c.toNat % 64) [] = c.toNat % 64 from rfl, show ((0 + 1 : Nat) : Int) = 1 from rfl, ← hs] at hr
      rw [hr, show s = vlen c - 1 by omega]
      by_cases h2 : vsize (unbe (c.toNat % 64) (r.take (vlen c - 1)) : Int) = vlen c
      · rw [if_pos h2, if_pos (put_back h h2)]
      · rw [if_neg h2, if_neg]
        intro e
        have e2 := congrArg List.length e
        rw [vput_length, List.length_take] at e2
        omega
/-- The beginning of a number alone is none, or the number. -/
theorem vtake_part {n : Nat} (h : n ≤ 4611686018427387903) {j : Nat} (hj : j < vsize (n : Int)) : vtake ((vput (n : Int)).take j) = none := by
  have h1 := vtake_vput h []
  rw [List.append_nil] at h1
  have hlen := vput_length (n : Int)
  cases hv : vput (n : Int) with
  | nil => rw [hv] at hlen; simp at hlen; omega
  | cons c r =>
    rw [hv] at h1 hlen
    cases j with
    | zero => rfl
    | succ j =>
      rw [List.take_succ_cons]
      have hc : vlen c = vsize (n : Int) := by
        by_cases hs : (c :: r).length < vlen c
        · rw [vtake_short hs] at h1; cases h1
        · rw [vtake_long hs] at h1
          split at h1
          · injection h1 with h1; injection h1
          · cases h1
      apply vtake_short
      rw [hc, List.length_cons, List.length_take]; omega
/-- Where a unit is cut there is none. -/
theorem next_cut {b : List UInt8} {i : Nat} {k : UInt8} {u : List UInt8} (hi : i ≤ b.length) (hu : u.length ≤ 4160) {j : Nat} (hj : j < (unitL k u).length) (hb : b.drop i = (unitL k u).take j) : (nextL b i false).2.2.1 = false := by
  have hs : (sealL (k :: u)).length = u.length + 5 := by rw [sealL_length]; simp
  have hlen : b.length - i = j := by
    have := congrArg List.length hb
    rw [List.length_drop, List.length_take] at this; omega
  have hx : (bytesL b i false 4165).2.bad_ = true := by
    unfold bytesL
    rw [if_neg (by decide), hb]
    unfold unitL spanL at hj ⊢
    rw [hs] at hj ⊢
    rw [List.length_append, vput_length, hs] at hj
    by_cases h1 : j < vsize ((u.length + 5 : Nat) : Int)
    · rw [List.take_append_of_le_length (by rw [vput_length]; omega), vtake_part (by omega) h1]
    · rw [List.take_append, List.take_of_length_le (by rw [vput_length]; omega), vtake_vput (by omega)]
      simp only []
      rw [if_neg (by omega)]
  unfold nextL
  generalize bytesL b i false 4165 = q at *
  obtain ⟨x, s⟩ := q
  simp only [] at hx ⊢
  rw [if_pos hx]
/-- Where bytes that are no seal stand in a span there is no unit. -/
theorem next_spoilt {b x rest : List UInt8} {i : Nat} (hi : i ≤ b.length) (hx : x.length ≤ 4165) (hb : b.drop i = vput (x.length : Int) ++ x ++ rest) (ho : openB x = false) : (nextL b i false).2.2.1 = false := by
  have hlen : b.length - i = vsize (x.length : Int) + x.length + rest.length := by
    have := congrArg List.length hb
    rw [List.length_drop, List.length_append, List.length_append, vput_length] at this; omega
  have hq : (bytesL b i false 4165).1 = x := by
    unfold bytesL
    rw [if_neg (by decide), hb, List.append_assoc, vtake_vput (by omega)]
    simp only []
    rw [if_pos ⟨by omega, by omega⟩]
    show (b.drop (i + vsize (x.length : Int))).take x.length = x
    rw [← List.drop_drop, hb, List.append_assoc, List.drop_append_of_le_length (by rw [vput_length]; omega), List.drop_of_length_le (by rw [vput_length]; omega), List.nil_append, List.take_left]
  unfold nextL
  generalize bytesL b i false 4165 = q at *
  obtain ⟨y, s⟩ := q
  simp only [] at hq ⊢
  rw [hq, ho]
  split <;> rfl
/-- A digit of a seal turned. -/
theorem flip_open {s : List UInt8} {k : Nat} (hk : k < 8 * s.length) (h : openB s = true) : openB (flipBit s k) = false := by
  cases h2 : openB (flipBit s k) with
  | false => rfl
  | true =>
    exfalso
    have e : spoilL s (k : Int) 1 = flipBit s k := by
      have hrec : ∀ n, spoilTo s (k : Int) 1 (n + 1) = flipBit s k := fun n => by
        induction n with
        | zero =>
          rw [spoilTo, if_pos ⟨by omega, by omega, by decide⟩, spoilTo]
          congr 1
        | succ n ih =>
          rw [spoilTo, if_neg, ih]
          rintro ⟨_, _, h⟩
          rw [show (1 : UInt32).toNat = 1 from rfl, Nat.testBit_succ] at h
          simp at h
      exact hrec 31
    have hf := found h (by rw [e]; exact h2)
    rw [e] at hf
    have hb := big_flip s k hk
    rw [hf] at hb
    have h3 := congrArg (big s ^^^ ·) hb
    simp only [← Nat.xor_assoc, Nat.xor_self, Nat.zero_xor] at h3
    have := Nat.two_pow_pos k
    omega
theorem flip_mid (a x r : List UInt8) {k : Nat} (hk : k < 8 * x.length) : flipBit (a ++ x ++ r) (8 * a.length + k) = a ++ flipBit x k ++ r := by
  unfold flipBit
  have e1 : (8 * a.length + k) / 8 = a.length + k / 8 := by omega
  have e2 : (8 * a.length + k) % 8 = k % 8 := by omega
  have h3 : k / 8 < x.length := by omega
  rw [e1, e2, List.append_assoc, List.set_append, if_neg (by omega), Nat.add_sub_cancel_left, List.set_append, if_pos h3, List.append_assoc]
  congr 4
  rw [List.getD_eq_getElem?_getD, List.getD_eq_getElem?_getD, List.getElem?_append_right (by omega), Nat.add_sub_cancel_left, List.getElem?_append_left h3]
/-- Behind a head and some records there is no unit. -/
theorem scan_stop {b c : List UInt8} (h : b.length ≤ 140737488351300) {n : Nat} (h1 : 1 ≤ n) (h2 : n ≤ 4611686018427387903) {us : List (List UInt8)} (hu : ∀ u ∈ us, u.length ≤ 4160) (hn : us.length ≤ 1000000) (hb : b = unitL 1 (vput (n : Int)) ++ recsL us ++ c)
    (hno : (nextL b (unitL 1 (vput (n : Int)) ++ recsL us).length false).2.2.1 = false) : segment_Scan b = some ⟨(n : Int), us, ((unitL 1 (vput (n : Int)) ++ recsL us).length : Int), false⟩ := by
  rw [List.length_append] at hno ⊢
  rw [scan_head h h1 h2 hu hn hb, show bigN - us.length = (bigN - us.length - 1) + 1 by unfold bigN; omega]
  exact foot_eq h hn (by rw [hb, List.length_append, List.length_append]; omega) (k := (nextL b ((unitL 1 (vput (n : Int))).length + (recsL us).length) false).1) (u := (nextL b ((unitL 1 (vput (n : Int))).length + (recsL us).length) false).2.1) (ok := (nextL b ((unitL 1 (vput (n : Int))).length + (recsL us).length) false).2.2.1) (s := (nextL b ((unitL 1 (vput (n : Int))).length + (recsL us).length) false).2.2.2) rfl (fun h => by rw [hno] at h; exact absurd h.1 (by decide))
theorem scan_none {b : List UInt8} (h : b.length ≤ 140737488351300) (hno : (nextL b 0 false).2.2.1 = false) : segment_Scan b = some ⟨0, [], 0, false⟩ := by
  rw [scan_eq h, if_neg]
  rintro ⟨h, _⟩
  rw [hno] at h; cases h
end Go.Proofs.Ytgobccnphhljcaa
