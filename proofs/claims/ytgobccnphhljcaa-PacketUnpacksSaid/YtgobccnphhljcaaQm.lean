/- The statements PacketForms, PacketRows and PacketBack, of the printed plain functions. -/
import Derived.Test.YtgobccnphhljcaaQl
namespace Go.Proofs.Ytgobccnphhljcaa
set_option linter.unusedVariables false

/-! ### PacketForms -/
theorem forms_loop {L : List Anon64} (hl : L.length ≤ 1000) (hz : ∀ z ∈ L, Pok z.p_ ∧ z.b_ = pkL z.p_) : ∀ k i : Nat, i ≤ L.length → L.length - i < k → haulierlaw06_PacketForms_l0 L k (i : Int) = some true
  | 0, i, _, h => by omega
  | k + 1, i, h, hk => by
    unfold haulierlaw06_PacketForms_l0
    by_cases hi : i < L.length
    · obtain ⟨h1, h2⟩ := hz _ (List.getElem_mem hi)
      have hlen := pkL_length (p := L[i].p_) (by have := h1.data; omega)
      rw [if_pos (by omega), if_pos ⟨by omega, by omega⟩, Int.toNat_natCast, List.getElem?_eq_getElem hi, Option.bind_some]
      generalize L[i] = z at *
      obtain ⟨p, b⟩ := z
      simp only [] at h1 h2 hlen ⊢
      subst h2
      rw [Plain_ok h1, Option.bind_some]
      simp only []
      rw [New_eq (by omega), Option.bind_some, if_neg (by decide), SameB_self (by omega), Option.bind_some, if_pos rfl, Option.bind_some, if_neg (by decide)]
      obtain ⟨t1, t2, t3⟩ := Take_ok (b := pkL p) (i := 0) (p := p) (r := []) (by omega) (Nat.zero_le _) h1 (by simp)
      rw [t1, Option.bind_some]
      simp only []
      rw [if_pos trivial, Same_eq, Option.bind_some, if_pos (by simp), Left_eq (by omega) t2, Option.bind_some]
      simp only []
      rw [if_neg (by simp), w64_small (by omega) (by omega), show ((i : Int) + 1) = ((i + 1 : Nat) : Int) by omega]
      exact forms_loop hl hz k (i + 1) hi (by omega)
    · rw [if_neg (by omega), wakes06]; rfl
theorem forms_plain (a b c : Int) (f : Bool) : haulierlaw06_PacketForms a b c f = some true := by
  obtain ⟨n, hn, hn1⟩ := Within_eq (a := a) (n := 64) (by decide) (by decide)
  obtain ⟨m, hm, hm1⟩ := Within_eq (a := b) (n := 64) (by decide) (by decide)
  obtain ⟨s, hs, hs1⟩ := Within_eq (a := c) (n := 64) (by decide) (by decide)
  unfold haulierlaw06_PacketForms
  have hf : ((if f = true then some (1 : UInt8) else some (0 : UInt8) : Option UInt8)) = some (if f = true then 1 else 0) := by split <;> rfl
  rw [hn, Option.bind_some, hm, Option.bind_some, hs, Option.bind_some, hf, Option.bind_some, Option.bind_some, Option.bind_some, Option.bind_some, Option.bind_some, Option.bind_some]
  refine forms_loop (by simp) ?_ bigN 0 (Nat.zero_le _) (by simp [bigN])
  have vn := vput_small (n := n) (by omega)
  have vm := vput_small (n := m) (by omega)
  have vs := vput_small (n := s) (by omega)
  rw [u8of_nat (by omega), u8of_nat (by omega), u8of_nat (by omega)]
  have v2 : vput 2 = [2] := by decide +kernel
  have v0 : vput 0 = [0] := by decide +kernel
  have v1 : vput 1 = [1] := by decide +kernel
  have v300 : vput 300 = [65, 44] := by decide +kernel
  have v4096 : vput 4096 = [80, 0] := by decide +kernel
  have v65535 : vput 65535 = [128, 0, 255, 255] := by decide +kernel
  have v100 : vput 100 = [64, 100] := by decide +kernel
  have k1 : u8of 1 = 1 := by decide +kernel
  have k2 : u8of 2 = 2 := by decide +kernel
  have k3 : u8of 3 = 3 := by decide +kernel
  have k4 : u8of 4 = 4 := by decide +kernel
  simp only [List.mem_cons, List.not_mem_nil, or_false, forall_eq_or_imp, forall_eq]
  refine ⟨⟨?_, ?_⟩, ⟨?_, ?_⟩, ⟨?_, ?_⟩, ⟨?_, ?_⟩, ⟨?_, ?_⟩⟩
  · unfold Pok; simp; omega
  · unfold pkL pkTail
    simp only []
    rw [if_neg (by decide), if_neg (by decide), if_neg (by decide), k1, v2, vn]; rfl
  · unfold Pok; simp; omega
  · unfold pkL pkTail
    simp only []
    rw [if_pos trivial, k2, v0, v300, vn]; rfl
  · unfold Pok; simp; omega
  · unfold pkL pkTail spanL
    simp only []
    generalize (if f = true then (1 : UInt8) else 0) = z
    rw [if_neg (by decide), if_pos trivial, k3, v1, vn, vm, show ((([97, 98] : List UInt8).length : Nat) : Int) = 2 from rfl, v2]; rfl
  · unfold Pok; simp; omega
  · unfold pkL pkTail spanL
    simp only []
    rw [if_neg (by decide), if_pos trivial, k3, v4096, vn, show ((([] : List UInt8).length : Nat) : Int) = 0 from rfl, v0]; rfl
  · unfold Pok; simp; omega
  · unfold pkL pkTail
    simp only []
    rw [if_neg (by decide), if_neg (by decide), if_pos trivial, k4, v1, vn, v65535, vs, v100]; rfl

/-! ### PacketRows -/
/-- The bytes of packets. -/
def pksL (l : List api_Packet) : List UInt8 := (l.map pkL).flatten
theorem pksL_snoc (l : List api_Packet) (p : api_Packet) : pksL (l ++ [p]) = pksL l ++ pkL p := by simp [pksL]
theorem pksL_drop {l : List api_Packet} {i : Nat} (h : i < l.length) : pksL (l.drop i) = pkL l[i] ++ pksL (l.drop (i + 1)) := by
  unfold pksL
  rw [List.drop_eq_getElem_cons h, List.map_cons, List.flatten_cons]
theorem rows_l0 (l : List api_Packet) : ∀ (k i : Nat) (acc : List api_Packet), acc.length = i → i ≤ 6 → 6 - i < k → (∀ p ∈ acc, Pok p) → (pksL acc).length ≤ 1100 * i →
    ∃ ws, haulierlaw06_PacketRows_l0 l k acc (pksL acc) (i : Int) = some (Sum.inr (pksL ws, ws)) ∧ ws.length ≤ 6 ∧ (∀ p ∈ ws, Pok p) ∧ (pksL ws).length ≤ 6600
  | 0, i, acc, _, _, h, _, _ => by omega
  | k + 1, i, acc, hacc, hi, hk, hp, hl => by
    unfold haulierlaw06_PacketRows_l0
    have hc : ((if (i : Int) < (l.length : Int) then some (decide ((i : Int) < 6)) else some false : Option Bool)) = some (decide (i < min 6 l.length)) := by
      split
      · congr 1; rw [decide_eq_decide]; omega
      · congr 1; symm; rw [decide_eq_false_iff_not]; omega
    rw [hc, Option.bind_some]
    by_cases hlt : i < min 6 l.length
    · have hil : i < l.length := by omega
      rw [if_pos (by simpa using hlt), idx, if_pos (by omega), Int.toNat_natCast, List.getElem?_eq_getElem hil, Option.bind_some]
      obtain ⟨q, hq, hqd, hqp⟩ := play_eq l[i] 0
      have hq0 : Pok q := hqp 0 (by decide) (by decide)
      have hql := pkL_length (p := q) (by omega)
      rw [show (⟨l[i].Kind, l[i].Path, l[i].Number, l[i].Of, l[i].From, l[i].Data, l[i].Fin, l[i].Seen, l[i].Limit⟩ : api_Packet) = l[i] from rfl, hq, Option.bind_some, Plain_ok hq0, Option.bind_some]
      simp only []
      rw [if_neg (by decide), if_pos ⟨by unfold fits; omega, by omega⟩, Option.bind_some, if_pos ⟨by unfold fits; rw [List.length_singleton]; omega, by rw [List.length_singleton]; omega⟩]
      rw [← pksL_snoc, w64_small (by omega) (by omega), show ((i : Int) + 1) = ((i + 1 : Nat) : Int) by omega]
      exact rows_l0 l k (i + 1) (acc ++ [q]) (by simp [hacc]) (by omega) (by omega) (fun p h => by
        rcases List.mem_append.1 h with h | h
        · exact hp p h
        · rw [List.mem_singleton.1 h]; exact hq0) (by rw [pksL_snoc, List.length_append]; omega)
    · rw [if_neg (by simpa using hlt)]
      exact ⟨acc, rfl, by omega, hp, by omega⟩
theorem rows_l1 {ws : List api_Packet} (hw : ws.length ≤ 6) (hp : ∀ p ∈ ws, Pok p) {b : List UInt8} (hb : b.length ≤ 10000) : ∀ (k i j : Nat), i ≤ ws.length → ws.length - i < k → j ≤ b.length → b.drop j = pksL (ws.drop i) →
    haulierlaw06_PacketRows_l1 ws k (rdr b j false) (i : Int) = some (Sum.inr (rdr b b.length false))
  | 0, i, j, _, h, _, _ => by omega
  | k + 1, i, j, hi, hk, hj, hd => by
    unfold haulierlaw06_PacketRows_l1
    by_cases hlt : i < ws.length
    · have hpi := hp _ (List.getElem_mem hlt)
      rw [pksL_drop hlt] at hd
      obtain ⟨t1, t2, t3⟩ := Take_ok (by omega) hj hpi hd
      rw [if_pos (by omega), if_pos ⟨by omega, by omega⟩, Int.toNat_natCast, List.getElem?_eq_getElem hlt, Option.bind_some, t1, Option.bind_some]
      simp only []
      rw [if_pos trivial, Same_eq, Option.bind_some, if_pos (by simp), w64_small (by omega) (by omega), show ((i : Int) + 1) = ((i + 1 : Nat) : Int) by omega]
      exact rows_l1 hw hp hb k (i + 1) _ hlt (by omega) t2 t3
    · rw [if_neg (by omega)]
      rw [List.drop_of_length_le (show ws.length ≤ i by omega)] at hd
      have := congrArg List.length hd
      rw [List.length_drop] at this
      simp [pksL] at this
      rw [show j = b.length by omega]
theorem rows_l2 {ws : List api_Packet} (hw : ws.length ≤ 6) (hp : ∀ p ∈ ws, Pok p) {c : List UInt8} (hc : c.length ≤ 10000) {mi : List UInt8} (hmi : mi ≠ []) (hml : mi.length ≤ 10000) : ∀ (k i j : Nat), i ≤ ws.length → ws.length - i < k → j ≤ c.length → c.drop j ++ mi = pksL (ws.drop i) →
    haulierlaw06_PacketRows_l2 ws k (rdr c j false) (i : Int) = some true
  | 0, i, j, _, h, _, _ => by omega
  | k + 1, i, j, hi, hk, hj, hd => by
    unfold haulierlaw06_PacketRows_l2
    have hlt : i < ws.length := by
      rcases Nat.lt_or_ge i ws.length with h | h
      · exact h
      · exfalso
        rw [List.drop_of_length_le h] at hd
        exact hmi (List.append_eq_nil_iff.1 (hd.trans (by simp [pksL]))).2
    rw [if_pos (by omega)]
    obtain ⟨p, ok, s, t1, t2, t3⟩ := Take_any (b := c) (i := j) (by omega) hj
    rw [t1, Option.bind_some]
    simp only []
    rcases t3 with ⟨rfl, rfl⟩ | ⟨rfl, h2, h3, rfl⟩
    · rw [if_neg (by decide), if_pos (by omega), wakes06]; rfl
    · rw [if_pos rfl, w64_small (by omega) (by omega), show ((i : Int) + 1) = ((i + 1 : Nat) : Int) by omega]
      have hlen := congrArg List.length h3
      rw [List.length_drop, List.length_append, List.length_drop] at hlen
      rw [h3, pksL_drop hlt, List.append_assoc] at hd
      obtain ⟨rfl, h4⟩ := pkL_inj h2 (hp _ (List.getElem_mem hlt)) hd (by rw [List.length_append, List.length_append, List.length_drop]; omega)
      have hpos : 1 ≤ (pkL ws[i]).length := by unfold pkL; simp
      exact rows_l2 hw hp hc hmi hml k (i + 1) _ hlt (by omega) (by omega) h4
theorem rows_plain (l : List api_Packet) (cutAt : Int) : haulierlaw06_PacketRows l cutAt = some true := by
  unfold haulierlaw06_PacketRows
  obtain ⟨ws, h1, h2, h3, h4⟩ := rows_l0 l bigN 0 [] rfl (by omega) (by unfold bigN; omega) (fun _ h => by cases h) (by simp [pksL])
  rw [show pksL ([] : List api_Packet) = [] from rfl, show ((0 : Nat) : Int) = 0 from rfl] at h1
  rw [h1, Option.bind_some]
  simp only []
  rw [New_eq (by omega), Option.bind_some]
  have h5 := rows_l1 h2 h3 (b := pksL ws) (by omega) bigN 0 0 (Nat.zero_le _) (by unfold bigN; omega) (Nat.zero_le _) (by simp)
  rw [show ((0 : Nat) : Int) = 0 from rfl] at h5
  rw [h5, Option.bind_some]
  simp only []
  rw [Left_eq (by omega) (Nat.le_refl _), Option.bind_some]
  simp only []
  rw [if_neg (by simp), Bad_eq, Option.bind_some]
  simp only []
  rw [Option.bind_some, if_neg (by decide)]
  by_cases h0 : ((pksL ws).length : Int) = 0
  · rw [if_pos h0, wakes06]; rfl
  · rw [if_neg h0]
    obtain ⟨m, hm, hm1⟩ := Within_eq (a := cutAt) (n := ((pksL ws).length : Int)) (by omega) (by omega)
    have hc : cut (pksL ws) 0 (m : Int) = some ((pksL ws).take m) := by
      have := cut_eq (l := pksL ws) (Nat.zero_le m) (by omega)
      rw [List.drop_zero] at this
      exact this
    rw [hm, Option.bind_some, hc, Option.bind_some, New_eq (by rw [List.length_take]; omega), Option.bind_some]
    have h6 := rows_l2 h2 h3 (c := (pksL ws).take m) (by rw [List.length_take]; omega) (mi := (pksL ws).drop m) (fun e => by
      have := congrArg List.length e
      rw [List.length_drop] at this
      simp at this; omega) (by rw [List.length_drop]; omega) bigN 0 0 (Nat.zero_le _) (by unfold bigN; omega) (Nat.zero_le _) (by rw [List.drop_zero, List.drop_zero, List.take_append_drop])
    exact h6

/-! ### PacketBack -/
theorem Unpack_ok {p : api_Packet} (h : Pok p) : packet_Unpack (sealL (pkL p)) = some (p, 0) := by
  have hl := pkL_length (p := p) (by have := h.data; omega)
  unfold packet_Unpack sum_Open
  rw [if_pos (by rw [sealL_length]; simp [lim14]; omega), openB_seal, openL_seal, Option.bind_some]
  simp only []
  rw [if_pos trivial, New_eq (by omega), Option.bind_some]
  obtain ⟨t1, t2, t3⟩ := Take_ok (b := pkL p) (i := 0) (p := p) (r := []) (by omega) (Nat.zero_le _) h (by simp)
  rw [t1, Option.bind_some]
  simp only []
  rw [if_pos trivial, Left_eq (by omega) t2, Option.bind_some]
  simp only []
  rw [if_neg (by simp)]
theorem Unpack_bad {b : List UInt8} (hl : b.length ≤ 140737488351300) (h : openB b = false) : packet_Unpack b = some (pk0, 2) := by
  unfold packet_Unpack sum_Open
  rw [if_pos (by simp [lim14]; omega), h, Option.bind_some]
  simp only []
  rw [if_neg (by decide)]
theorem spoil_bit {s : List UInt8} {bit : Int} {mask : UInt32} (h0 : 0 ≤ bit) (h1 : bit < 8 * s.length) (hm : mask.toNat.testBit 0 = true) : ∀ n, (big (spoilTo s bit mask (n + 1))).testBit bit.toNat = !(big s).testBit bit.toNat
  | 0 => by
    rw [spoilTo, if_pos ⟨by omega, by omega, hm⟩, spoilTo, big_flip _ _ (by omega), Nat.testBit_xor, Nat.testBit_two_pow]
    simp
  | n + 1 => by
    rw [spoilTo]
    split
    · rename_i h
      rw [big_flip _ _ (by rw [spoilTo_length]; omega), Nat.testBit_xor, spoil_bit h0 h1 hm n, Nat.testBit_two_pow]
      have hne : ¬ (bit + ((n + 1 : Nat) : Int)).toNat = bit.toNat := by omega
      rw [decide_eq_false hne, Bool.xor_false]
    · exact spoil_bit h0 h1 hm n
theorem spoil_open {s : List UInt8} {bit : Int} {mask : UInt32} (h0 : 0 ≤ bit) (h1 : bit < 8 * s.length) (hm : mask.toNat.testBit 0 = true) (h : openB s = true) : openB (spoilL s bit mask) = false := by
  cases h2 : openB (spoilL s bit mask) with
  | false => rfl
  | true =>
    exfalso
    have e := found h h2
    have := spoil_bit h0 h1 hm 31
    rw [show spoilTo s bit mask (31 + 1) = spoilL s bit mask from rfl, e] at this
    cases hb : (big s).testBit bit.toNat <;> rw [hb] at this <;> cases this
theorem back6_plain (x : api_Packet) (how bit : Int) (mask : UInt32) : haulierlaw06_PacketBack x how bit mask = some true := by
  unfold haulierlaw06_PacketBack
  obtain ⟨m, hm, hm1⟩ := Within_eq (a := how) (n := 29) (by decide) (by decide)
  obtain ⟨p, hp, hpd, hpp⟩ := play_eq x (m : Int)
  have hok : Pok p := hpp (m : Int) (Within_small (by omega) (by omega) (by decide)) (by omega)
  have hl := pkL_length (p := p) (by omega)
  have hl3 : 3 ≤ (pkL p).length := by
    unfold pkL
    simp only [List.length_cons, List.length_append, vput_length]
    obtain ⟨h1, h2, h3, h4, _⟩ := hok
    have v1 := vsize_cases p.Path
    have v2 := vsize_cases p.Number
    omega
  have hs := sealL_length (pkL p)
  rw [hm, Option.bind_some]
  rw [show (⟨x.Kind, x.Path, x.Number, x.Of, x.From, x.Data, x.Fin, x.Seen, x.Limit⟩ : api_Packet) = x from rfl, hp, Option.bind_some, Pack_ok hok, Option.bind_some]
  simp only []
  rw [if_neg (by decide), Option.bind_some, if_neg (by simp; omega), Unpack_ok hok, Option.bind_some]
  simp only []
  rw [w64_small (by omega) (by omega)]
  obtain ⟨v, hv, hv1⟩ := Within_eq (a := bit) (n := 8 * ((sealL (pkL p)).length : Int)) (by omega) (by omega)
  rw [hv, Option.bind_some]
  unfold haulierref01_Spoil sum_Spoil
  rw [if_pos ⟨by simp [lim14]; omega, by omega, by omega⟩, Option.bind_some]
  have hb := spoil_open (s := sealL (pkL p)) (bit := (v : Int)) (mask := mask ||| 1) (by omega) (by omega) (by rw [UInt32.toNat_or, Nat.testBit_or]; simp) (openB_seal _)
  rw [Unpack_bad (by unfold spoilL; rw [spoilTo_length]; omega) hb, Option.bind_some]
  simp only []
  rw [if_pos trivial, Same_eq, Option.bind_some, if_pos (by simp), if_pos trivial, Same_eq, Option.bind_some, if_pos (by simp), wakes06]
  rfl
end Go.Proofs.Ytgobccnphhljcaa
