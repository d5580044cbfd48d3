/- What the printed functions compute, in plain Lean: a packet's bytes, by the program and by the document. -/
import Derived.Test.YtgobccnphhljcaaQi
import Derived.Test.YtgobccnphhljcaaQb
namespace Go.Proofs.Ytgobccnphhljcaa
set_option linter.unusedVariables false

theorem between_eq (a b c : Int) : haulierref01_between a b c = some (decide (b ≤ a ∧ a ≤ c)) := by
  unfold haulierref01_between
  split
  · rename_i h; simp [h]
  · rename_i h; congr 1; symm; rw [decide_eq_false_iff_not]; omega
theorem dfalse {p : api_Packet} (h : ¬ Pok p) : some false = some (decide (Pok p)) := by simp [h]
theorem dtrue {p : api_Packet} (h : Pok p) : some true = some (decide (Pok p)) := by simp [h]
theorem ddec {p : api_Packet} {q : Prop} [Decidable q] (h : q ↔ Pok p) : some (decide q) = some (decide (Pok p)) := by
  congr 1; rw [decide_eq_decide]; exact h
/-- The document's packets that may be are the program's. -/
theorem Right_eq (p : api_Packet) : haulierref01_Right p = some (decide (Pok p)) := by
  obtain ⟨kd, pa, nu, of, fr, da, fi, se, li⟩ := p
  unfold haulierref01_Right
  simp only [between_eq, Option.bind_some]
  by_cases h1 : 1 ≤ kd ∧ kd ≤ 4
  · rw [if_pos (by simpa using h1)]
    by_cases h2 : 0 ≤ pa ∧ pa ≤ 2
    · rw [if_pos (by simpa using h2), Option.bind_some]
      by_cases h3 : 0 ≤ nu ∧ nu ≤ 65535
      · rw [if_neg (by simpa using h3)]
        have h4 : kd = 1 ∨ kd = 2 ∨ kd = 3 ∨ kd = 4 := by omega
        rcases h4 with rfl | rfl | rfl | rfl
        · rw [if_neg (by decide), Option.bind_some]
          simp only []
          rw [if_neg (by simp), if_neg (by simp)]
          by_cases ho : of = 0
          · rw [Option.bind_some, if_neg (by simpa using ho), if_neg (by simp), if_neg (by simp)]
            by_cases hf : fr = 0
            · rw [if_neg (by simpa using hf)]
              cases da with
              | nil =>
                rw [if_neg (by simp), Option.bind_some]
                cases fi with
                | true => exact dfalse (by unfold Pok; simp)
                | false =>
                  rw [if_neg (by decide), if_neg (by simp), if_neg (by simp)]
                  by_cases hs : se = 0
                  · rw [if_pos hs]; exact ddec (by unfold Pok; simp; omega)
                  · rw [if_neg hs]; exact dfalse (by unfold Pok; simp; omega)
              | cons c r =>
                rw [if_pos (by simp), Option.bind_some, if_pos rfl]; exact dfalse (by unfold Pok; simp)
            · rw [if_pos (by simpa using hf), Option.bind_some, if_pos rfl]; exact dfalse (by unfold Pok; simp only []; omega)
          · rw [Option.bind_some, if_pos (by simpa using ho)]; exact dfalse (by unfold Pok; simp only []; omega)
        · rw [if_pos rfl, Option.bind_some]
          simp only []
          rw [if_pos trivial]
          by_cases ho : 0 ≤ of ∧ of ≤ 65535
          · rw [if_pos (by simpa using ho), if_pos trivial, Option.bind_some, if_neg (by simp), if_neg (by simp), if_neg (by simp)]
            by_cases hf : fr = 0
            · rw [if_neg (by simpa using hf)]
              cases da with
              | nil =>
                rw [if_neg (by simp), Option.bind_some]
                cases fi with
                | true => exact dfalse (by unfold Pok; simp)
                | false =>
                  rw [if_neg (by decide), if_neg (by simp), if_neg (by simp)]
                  by_cases hs : se = 0
                  · rw [if_pos hs]; exact ddec (by unfold Pok; simp; omega)
                  · rw [if_neg hs]; exact dfalse (by unfold Pok; simp; omega)
              | cons c r =>
                rw [if_pos (by simp), Option.bind_some, if_pos rfl]; exact dfalse (by unfold Pok; simp)
            · rw [if_pos (by simpa using hf), Option.bind_some, if_pos rfl]; exact dfalse (by unfold Pok; simp only []; omega)
          · rw [if_neg (by simpa using ho), Option.bind_some, if_pos rfl]; exact dfalse (by unfold Pok; simp only []; omega)
        · rw [if_neg (by decide), Option.bind_some]
          simp only []
          rw [if_neg (by simp), if_neg (by simp)]
          by_cases ho : of = 0
          · rw [Option.bind_some, if_neg (by simpa using ho), if_pos (by simp)]
            by_cases hf : 0 ≤ fr ∧ fr ≤ 4096
            · rw [if_pos (by simpa using hf)]
              by_cases hd : da.length ≤ 64
              · rw [if_neg (by omega), w64_small (by omega) (by omega)]
                by_cases hd2 : fr + da.length ≤ 4096
                · rw [if_neg (by omega), if_pos (by simp), Option.bind_some, if_neg (by decide), if_neg (by simp), if_neg (by simp)]
                  by_cases hs : se = 0
                  · rw [if_pos hs]; exact ddec (by unfold Pok; simp; omega)
                  · rw [if_neg hs]; exact dfalse (by unfold Pok; simp only []; omega)
                · rw [if_pos (by omega), Option.bind_some, if_pos rfl]; exact dfalse (by unfold Pok; simp only []; omega)
              · rw [if_pos (by omega), Option.bind_some, if_pos rfl]; exact dfalse (by unfold Pok; simp only []; omega)
            · rw [if_neg (by simpa using hf), Option.bind_some, if_pos rfl]; exact dfalse (by unfold Pok; simp only []; omega)
          · rw [Option.bind_some, if_pos (by simpa using ho)]; exact dfalse (by unfold Pok; simp only []; omega)
        · rw [if_neg (by decide), Option.bind_some]
          simp only []
          rw [if_pos (by simp)]
          by_cases ho : 0 ≤ of ∧ of ≤ 65535
          · rw [if_pos (by simpa using ho), if_pos (by simp), Option.bind_some, if_neg (by decide), if_neg (by simp), if_neg (by simp)]
            by_cases hf : fr = 0
            · rw [if_neg (by simpa using hf)]
              cases da with
              | nil =>
                rw [if_neg (by simp), Option.bind_some]
                cases fi with
                | true => exact dfalse (by unfold Pok; simp)
                | false =>
                  rw [if_neg (by decide), if_pos (by simp)]
                  by_cases hs : 0 ≤ se ∧ se ≤ 4097
                  · rw [if_pos (by simpa using hs)]
                    by_cases hl : 0 ≤ li ∧ li ≤ 4496
                    · rw [if_pos (by simpa using hl)]; exact dtrue (by unfold Pok; simp; omega)
                    · rw [if_neg (by simpa using hl), if_pos (by simp)]; exact dfalse (by unfold Pok; simp only []; omega)
                  · rw [if_neg (by simpa using hs), if_pos (by simp)]; exact dfalse (by unfold Pok; simp only []; omega)
              | cons c r =>
                rw [if_pos (by simp), Option.bind_some, if_pos rfl]; exact dfalse (by unfold Pok; simp)
            · rw [if_pos (by simpa using hf), Option.bind_some, if_pos rfl]; exact dfalse (by unfold Pok; simp only []; omega)
          · rw [if_neg (by simpa using ho), Option.bind_some, if_pos rfl]; exact dfalse (by unfold Pok; simp only []; omega)
      · rw [if_pos (by simp; omega)]; exact dfalse (by unfold Pok; simp only []; omega)
    · rw [if_neg (by simp; omega), Option.bind_some, if_pos rfl]; exact dfalse (by unfold Pok; simp only []; omega)
  · rw [if_neg (by simp; omega), Option.bind_some, if_pos rfl]; exact dfalse (by unfold Pok; simp only []; omega)
theorem refput_loop {n : Int} (h0 : 0 ≤ n) {s : Nat} (hs : s ≤ 8) : ∀ (i : Nat), i ≤ s → ∀ (k : Nat), i < k →
    haulierref01_Put_l0 n k ((bigE s n.toNat).take (s - i)) ((i : Int) - 1) = some (bigE s n.toNat)
  | 0, _, 0, h => by omega
  | 0, hi, k + 1, h => by
    unfold haulierref01_Put_l0
    rw [if_neg (by omega), Nat.sub_zero, List.take_of_length_le (by rw [be_length]; omega)]
  | i + 1, hi, 0, h => by omega
  | i + 1, hi, k + 1, h => by
    unfold haulierref01_Put_l0
    have e : ((i + 1 : Nat) : Int) - 1 = (i : Int) := by omega
    have e8 : w64 (8 * (i : Int)) = ((8 * i : Nat) : Int) := by rw [w64_small (by omega) (by omega)]; omega
    have eu : ((u64of ((8 * i : Nat) : Int)).toNat : Int) = ((8 * i : Nat) : Int) := by
      unfold u64of
      rw [show (((8 * i : Nat) : Int) % 18446744073709551616).toNat = 8 * i by omega, UInt64.toNat_ofNat']
      omega
    rw [e, if_pos (by omega), e8, eu, show ((8 * i : Nat) : Int) = 8 * (i : Int) by omega, Option.bind_some, sr64_byte h0 (by omega)]
    rw [if_pos ⟨by simp [fits, be_length]; omega, by simp [be_length]; omega⟩]
    have hg := be_get (n := n.toNat) (show i < s by omega)
    have ht : (bigE s n.toNat).take (s - (i + 1)) ++ [UInt8.ofNat (n.toNat / 256 ^ i)] = (bigE s n.toNat).take (s - i) := by
      rw [show s - i = (s - (i + 1)) + 1 by omega, List.take_add_one, show s - (i + 1) = s - 1 - i by omega, hg]; rfl
    rw [ht, w64_small (by omega) (by omega)]
    exact refput_loop h0 hs i (by omega) k (by omega)
theorem refPut_eq (n : Int) : haulierref01_Put n = some (vput n) := by
  unfold haulierref01_Put
  rw [refSize_eq, Option.bind_some]
  have hs := vsize_le n
  rw [w64_small (by omega) (by omega)]
  rcases vsize_cases n with ⟨h, _⟩ | ⟨h0, _, hc⟩
  · rw [h]
    have hp : vput n = [] := List.eq_nil_of_length_eq_zero (by rw [vput_length, h])
    rw [hp]
    rfl
  · have hl := refput_loop h0 hs (vsize n) (Nat.le_refl _) bigN (by unfold bigN; omega)
    rw [Nat.sub_self, List.take_zero] at hl
    rw [hl, Option.bind_some, if_pos (by omega)]
    have hbl := be_length (vsize n) n.toNat
    unfold vput
    cases hb : bigE (vsize n) n.toNat with
    | nil => rw [hb] at hbl; simp at hbl; omega
    | cons c l =>
      rw [if_pos ⟨by omega, by simp⟩]
      have hx : ((c :: l)[(0 : Int).toNat]?) = some c := rfl
      rw [hx, Option.bind_some]
      have hm : ∃ z, idx ([0, 0, 1, 0, 2, 0, 0, 0, 3] : List Int) (vsize n : Int) = some z ∧ u8of (sl64 z 6) = vmark (vsize n) := by
        rcases hc with ⟨h, _⟩ | ⟨h, _⟩ | ⟨h, _⟩ | ⟨h, _⟩ <;> rw [h]
        · exact ⟨0, rfl, by decide +kernel⟩
        · exact ⟨1, rfl, by decide +kernel⟩
        · exact ⟨2, rfl, by decide +kernel⟩
        · exact ⟨3, rfl, by decide +kernel⟩
      obtain ⟨z, hz, hz2⟩ := hm
      rw [hz, Option.bind_some, if_pos ⟨by omega, by simp⟩, hz2, Option.bind_some]
      rfl
/-- What stands behind a packet's head. -/
def pkTail (p : api_Packet) : List UInt8 :=
  if p.Kind = 2 then vput p.Of else if p.Kind = 3 then vput p.From ++ (spanL p.Data ++ [if p.Fin = true then 1 else 0]) else if p.Kind = 4 then vput p.Of ++ (vput p.Seen ++ vput p.Limit) else []
/-- A packet's bytes. -/
def pkL (p : api_Packet) : List UInt8 := u8of p.Kind :: (vput p.Path ++ (vput p.Number ++ pkTail p))
theorem spanL_length (b : List UInt8) : (spanL b).length = vsize (b.length : Int) + b.length := by
  unfold spanL; rw [List.length_append, vput_length]
theorem pkTail_length {p : api_Packet} (h : p.Data.length ≤ 1000) : (pkTail p).length ≤ 1040 := by
  unfold pkTail
  have h1 := vsize_le p.Of
  have h2 := vsize_le p.From
  have h3 := vsize_le p.Seen
  have h4 := vsize_le p.Limit
  have h5 := vsize_le (p.Data.length : Int)
  repeat' split
  all_goals simp only [List.length_append, vput_length, spanL_length, List.length_singleton, List.length_nil]
  all_goals omega
theorem pkL_length {p : api_Packet} (h : p.Data.length ≤ 1000) : (pkL p).length ≤ 1100 := by
  unfold pkL
  have h0 := pkTail_length h
  have h1 := vsize_le p.Path
  have h2 := vsize_le p.Number
  simp only [List.length_cons, List.length_append, vput_length]
  omega
theorem Pok.data {p : api_Packet} (h : Pok p) : p.Data.length ≤ 64 := by
  obtain ⟨-, -, -, -, h | h | h | h⟩ := h
  · rw [h.2.2.2.1]; simp
  · rw [h.2.2.2.2.1]; simp
  · exact h.2.2.2.2.1
  · rw [h.2.2.2.2.1]; simp
theorem Plain_ok {p : api_Packet} (h : Pok p) : packet_Plain p = some (pkL p, 0) := by
  have hd := h.data
  unfold packet_Plain
  rw [Check_eq, if_pos h, Option.bind_some, if_neg (by decide), Put_eq, Option.bind_some, Put_eq, Option.bind_some, Option.bind_some]
  have h1 := vsize_le p.Path
  have h2 := vsize_le p.Number
  have h3 := vsize_le p.Of
  have h4 := vsize_le p.From
  have h5 := vsize_le p.Seen
  have h6 := vsize_le p.Limit
  have h7 := vsize_le (p.Data.length : Int)
  have hfl : ([[u8of p.Kind], vput p.Path, vput p.Number] : List (List UInt8)).flatten = u8of p.Kind :: (vput p.Path ++ vput p.Number) := by simp
  have hl : (u8of p.Kind :: (vput p.Path ++ vput p.Number)).length ≤ 17 := by simp only [List.length_cons, List.length_append, vput_length]; omega
  rw [Concat_eq (by simp) (by rw [hfl]; omega), hfl, Option.bind_some]
  unfold pkL pkTail
  by_cases k2 : p.Kind = 2
  · rw [if_pos k2, if_pos k2, Put_eq, Option.bind_some, if_pos ⟨by unfold fits; rw [vput_length]; omega, by rw [vput_length]; omega⟩]
    simp only [List.cons_append, List.append_assoc]
  · rw [if_neg k2, if_neg k2]
    by_cases k3 : p.Kind = 3
    · rw [if_pos k3, if_pos k3, Put_eq, Option.bind_some, Span_eq (by omega), Option.bind_some]
      have hsl := spanL_length p.Data
      rw [show vput (p.Data.length : Int) ++ p.Data = spanL p.Data from rfl]
      have hfl2 : ([u8of p.Kind :: (vput p.Path ++ vput p.Number), vput p.From, spanL p.Data] : List (List UInt8)).flatten = u8of p.Kind :: (vput p.Path ++ (vput p.Number ++ (vput p.From ++ spanL p.Data))) := by simp
      have hl2 : (u8of p.Kind :: (vput p.Path ++ (vput p.Number ++ (vput p.From ++ spanL p.Data)))).length ≤ 1000 := by simp only [List.length_cons, List.length_append, vput_length]; omega
      rw [Concat_eq (by simp) (by rw [hfl2]; omega), hfl2, Option.bind_some]
      have ht : packet_truth p.Fin = some (if p.Fin = true then 1 else 0) := by unfold packet_truth; split <;> rfl
      rw [ht, Option.bind_some, if_pos ⟨by unfold fits; rw [List.length_singleton]; omega, by rw [List.length_singleton]; omega⟩]
      simp only [List.cons_append, List.append_assoc]
    · rw [if_neg k3, if_neg k3]
      by_cases k4 : p.Kind = 4
      · rw [if_pos k4, if_pos k4, Put_eq, Option.bind_some, Put_eq, Option.bind_some, Put_eq, Option.bind_some]
        have hfl2 : ([u8of p.Kind :: (vput p.Path ++ vput p.Number), vput p.Of, vput p.Seen, vput p.Limit] : List (List UInt8)).flatten = u8of p.Kind :: (vput p.Path ++ (vput p.Number ++ (vput p.Of ++ (vput p.Seen ++ vput p.Limit)))) := by simp
        rw [Concat_eq (by simp) (by rw [hfl2]; simp only [List.length_cons, List.length_append, vput_length]; omega), hfl2, Option.bind_some]
      · rw [if_neg k4, if_neg k4, List.append_nil]
theorem Pack_ok {p : api_Packet} (h : Pok p) : packet_Pack p = some (sealL (pkL p), 0) := by
  have := pkL_length (p := p) (by have := h.data; omega)
  unfold packet_Pack sum_Seal
  rw [Plain_ok h, Option.bind_some]
  simp only []
  rw [if_neg (by decide), if_pos (by simp [lim14]; omega)]
  rfl
theorem refPlain_bad {p : api_Packet} (h : ¬ Pok p) : haulierref01_Plain p = some ([], false) := by
  unfold haulierref01_Plain
  rw [Right_eq, Option.bind_some, if_neg (by simpa using h)]
theorem refPlain_ok {p : api_Packet} (h : Pok p) : haulierref01_Plain p = some (pkL p, true) := by
  have hd := h.data
  unfold haulierref01_Plain
  rw [Right_eq, Option.bind_some, if_pos (by simpa using h), refPut_eq, Option.bind_some]
  have h1 := vsize_le p.Path
  have h2 := vsize_le p.Number
  have h3 := vsize_le p.Of
  have h4 := vsize_le p.From
  have h5 := vsize_le p.Seen
  have h6 := vsize_le p.Limit
  have h7 := vsize_le (p.Data.length : Int)
  have hsl := spanL_length p.Data
  have l1 := vput_length p.Path
  have l2 := vput_length p.Number
  have l3 := vput_length p.Of
  have l4 := vput_length p.From
  have l5 := vput_length p.Seen
  have l6 := vput_length p.Limit
  have l7 := vput_length (p.Data.length : Int)
  have hw : haulierref01_Wrap p.Data = some (spanL p.Data) := by
    unfold haulierref01_Wrap
    rw [refPut_eq, Option.bind_some, if_pos ⟨by unfold fits; omega, by omega⟩]; rfl
  unfold pkL pkTail
  rw [if_pos ⟨by unfold fits; rw [List.length_singleton]; omega, by rw [List.length_singleton]; omega⟩, refPut_eq, Option.bind_some]
  have e1 : (([u8of p.Kind] ++ vput p.Path) ++ vput p.Number).length = 1 + (vput p.Path).length + (vput p.Number).length := by simp only [List.length_append, List.length_singleton]
  rw [if_pos ⟨by unfold fits; rw [List.length_append, List.length_singleton]; omega, by rw [List.length_append, List.length_singleton]; omega⟩, Option.bind_some]
  by_cases k2 : p.Kind = 2
  · rw [if_pos k2, if_pos k2, refPut_eq, Option.bind_some]
    rw [if_pos ⟨by unfold fits; omega, by omega⟩]
    simp only [List.cons_append, List.append_assoc, List.nil_append]
  · rw [if_neg k2, if_neg k2]
    by_cases k3 : p.Kind = 3
    · rw [if_pos k3, if_pos k3]
      have ht : ((if p.Fin = true then some (1 : UInt8) else some (0 : UInt8) : Option UInt8)) = some (if p.Fin = true then 1 else 0) := by split <;> rfl
      rw [ht, Option.bind_some, refPut_eq, Option.bind_some, if_pos ⟨by unfold fits; omega, by omega⟩, hw, Option.bind_some]
      have e2 : ((([u8of p.Kind] ++ vput p.Path) ++ vput p.Number) ++ vput p.From).length = 1 + (vput p.Path).length + (vput p.Number).length + (vput p.From).length := by rw [List.length_append, e1]
      have e3 : (((([u8of p.Kind] ++ vput p.Path) ++ vput p.Number) ++ vput p.From) ++ spanL p.Data).length = 1 + (vput p.Path).length + (vput p.Number).length + (vput p.From).length + (spanL p.Data).length := by rw [List.length_append, e2]
      rw [if_pos ⟨by unfold fits; omega, by omega⟩, if_pos ⟨by unfold fits; rw [List.length_singleton]; omega, by rw [List.length_singleton]; omega⟩, Option.bind_some]
      simp only [List.cons_append, List.append_assoc, List.nil_append]
    · rw [if_neg k3, if_neg k3]
      by_cases k4 : p.Kind = 4
      · rw [if_pos k4, if_pos k4, refPut_eq, Option.bind_some]
        have e2 : ((([u8of p.Kind] ++ vput p.Path) ++ vput p.Number) ++ vput p.Of).length = 1 + (vput p.Path).length + (vput p.Number).length + (vput p.Of).length := by rw [List.length_append, e1]
        have e3 : (((([u8of p.Kind] ++ vput p.Path) ++ vput p.Number) ++ vput p.Of) ++ vput p.Seen).length = 1 + (vput p.Path).length + (vput p.Number).length + (vput p.Of).length + (vput p.Seen).length := by rw [List.length_append, e2]
        rw [if_pos ⟨by unfold fits; omega, by omega⟩, refPut_eq, Option.bind_some, if_pos ⟨by unfold fits; omega, by omega⟩, refPut_eq, Option.bind_some, if_pos ⟨by unfold fits; omega, by omega⟩]
        simp only [List.cons_append, List.append_assoc, List.nil_append]
      · rw [if_neg k4, if_neg k4]
        simp only [List.cons_append, List.nil_append, List.append_nil]
theorem refPack_bad {p : api_Packet} (h : ¬ Pok p) : haulierref01_Pack p = some ([], false) := by
  unfold haulierref01_Pack
  rw [refPlain_bad h]; rfl
theorem refPack_ok {p : api_Packet} (h : Pok p) : haulierref01_Pack p = some (sealL (pkL p), true) := by
  have := pkL_length (p := p) (by have := h.data; omega)
  unfold haulierref01_Pack haulierref01_Seal sum_Seal
  rw [refPlain_ok h, Option.bind_some]
  simp only []
  rw [if_pos trivial, if_pos (by simp [lim14]; omega)]
  rfl
theorem refSame_eq (p q : api_Packet) : haulierref01_Same p q = some (decide (p = q)) := by
  obtain ⟨a1, a2, a3, a4, a5, a6, a7, a8, a9⟩ := p
  obtain ⟨b1, b2, b3, b4, b5, b6, b7, b8, b9⟩ := q
  simp only [haulierref01_Same, api_Packet.mk.injEq]
  by_cases h1 : a1 = b1 <;> by_cases h2 : a2 = b2 <;> by_cases h3 : a3 = b3 <;> by_cases h4 : a4 = b4 <;> by_cases h5 : a5 = b5 <;> by_cases h6 : a6 = b6 <;> simp [h1, h2, h3, h4, h5, h6]
  by_cases h7 : a7 = b7 <;> by_cases h8 : a8 = b8 <;> by_cases h9 : a9 = b9 <;> simp [h7, h8, h9]
theorem Within_small {a n : Int} (h0 : 0 ≤ a) (h1 : a < n) (h2 : n < 4611686018427387904) : haulierkeep_Within a n = some a := by
  unfold haulierkeep_Within
  rw [if_neg (by omega), if_pos (by omega), Int.tmod_eq_of_lt h0 h1, if_neg (by omega)]
/-- What a play makes of a packet. -/
theorem play_eq (p : api_Packet) (how : Int) : ∃ q, haulierplay_Packet p how = some q ∧ q.Data.length ≤ 80 ∧ (∀ m, haulierkeep_Within how 40 = some m → m < 29 → Pok q) := by
  unfold haulierplay_Packet
  obtain ⟨k, hk, hk1⟩ := Within_eq (a := p.Kind) (n := 4) (by decide) (by decide)
  obtain ⟨pa, hpa, hpa1⟩ := Within_eq (a := p.Path) (n := 3) (by decide) (by decide)
  obtain ⟨nu, hnu, hnu1⟩ := Within_eq (a := p.Number) (n := 300) (by decide) (by decide)
  obtain ⟨of, hof, hof1⟩ := Within_eq (a := p.Of) (n := 300) (by decide) (by decide)
  obtain ⟨fr, hfr, hfr1⟩ := Within_eq (a := p.From) (n := 200) (by decide) (by decide)
  obtain ⟨se, hse, hse1⟩ := Within_eq (a := p.Seen) (n := 300) (by decide) (by decide)
  obtain ⟨li, hli, hli1⟩ := Within_eq (a := p.Limit) (n := 400) (by decide) (by decide)
  obtain ⟨m, hm, hm1⟩ := Within_eq (a := how) (n := 40) (by decide) (by decide)
  obtain ⟨f2, hf2, hf21⟩ := Within_eq (a := p.From) (n := 4098) (by decide) (by decide)
  obtain ⟨n2, hn2, hn21⟩ := Within_eq (a := p.Number) (n := 65537) (by decide) (by decide)
  have hc20 : haulierkeep_Cut_byte p.Data 20 = some (p.Data.take 20) := Cut_eq (n := 20) (by decide)
  have hc70 : haulierkeep_Cut_byte p.Data 70 = some (p.Data.take 70) := Cut_eq (n := 70) (by decide)
  have hc80 : haulierkeep_Cut_byte p.Data 80 = some (p.Data.take 80) := Cut_eq (n := 80) (by decide)
  have l20 : (p.Data.take 20).length ≤ 20 := by rw [List.length_take]; omega
  have l70 : (p.Data.take 70).length ≤ 70 := by rw [List.length_take]; omega
  have l80 : (p.Data.take 80).length ≤ 80 := by rw [List.length_take]; omega
  have ek : w64 (1 + (k : Int)) = 1 + (k : Int) := w64_small (by omega) (by omega)
  rw [hk, Option.bind_some, hpa, Option.bind_some, hnu, Option.bind_some, ek, hof, Option.bind_some, hfr, Option.bind_some, hc20, Option.bind_some, Option.bind_some, hse, Option.bind_some, hli, Option.bind_some, hm]
  have hbase : ∃ a b c d e f, ((if 1 + (k : Int) = 2 then some ((of : Int), (0 : Int), ([] : List UInt8), false, (0 : Int), (0 : Int)) else if 1 + (k : Int) = 3 then some (0, (fr : Int), p.Data.take 20, p.Fin, 0, 0) else if 1 + (k : Int) = 4 then some ((of : Int), 0, [], false, (se : Int), (li : Int)) else some (0, 0, [], false, 0, 0) : Option (Int × Int × List UInt8 × Bool × Int × Int))) = some (a, b, c, d, e, f) ∧ c.length ≤ 80 ∧ Pok ⟨1 + (k : Int), (pa : Int), (nu : Int), a, b, c, d, e, f⟩ := by
    unfold Pok
    simp only []
    by_cases k2 : 1 + (k : Int) = 2
    · rw [if_pos k2]
      exact ⟨_, _, _, _, _, _, rfl, by simp, by omega, by omega, by omega, by omega, .inr (.inl ⟨k2, by omega, by omega, rfl, rfl, rfl, rfl, rfl⟩)⟩
    · rw [if_neg k2]
      by_cases k3 : 1 + (k : Int) = 3
      · rw [if_pos k3]
        exact ⟨_, _, _, _, _, _, rfl, by omega, by omega, by omega, by omega, by omega, .inr (.inr (.inl ⟨k3, rfl, by omega, by omega, by omega, by omega, rfl, rfl⟩))⟩
      · rw [if_neg k3]
        by_cases k4 : 1 + (k : Int) = 4
        · rw [if_pos k4]
          exact ⟨_, _, _, _, _, _, rfl, by simp, by omega, by omega, by omega, by omega, .inr (.inr (.inr ⟨k4, by omega, by omega, rfl, rfl, rfl, by omega, by omega, by omega, by omega⟩))⟩
        · rw [if_neg k4]
          exact ⟨_, _, _, _, _, _, rfl, by simp, by omega, by omega, by omega, by omega, .inl ⟨by omega, rfl, rfl, rfl, rfl, rfl, rfl⟩⟩
  obtain ⟨a, b, c, d, e, f, he, hcl, hok⟩ := hbase
  rw [he, Option.bind_some]
  simp only []
  rw [Option.bind_some]
  have hno : ∀ j : Int, 29 ≤ j → (m : Int) = j → ∀ q : api_Packet, ∀ m' : Int, some (m : Int) = some m' → m' < 29 → Pok q := fun j hj hj2 q m' h1 h2 => by injection h1 with h1; omega
  by_cases j29 : (m : Int) = 29
  · rw [if_pos j29]
    unfold haulierplay_Cut
    rw [hc80]
    exact ⟨_, rfl, l80, hno 29 (by omega) j29 _⟩
  rw [if_neg j29]
  by_cases j30 : (m : Int) = 30
  · rw [if_pos j30]; exact ⟨_, rfl, hcl, hno 30 (by omega) j30 _⟩
  rw [if_neg j30]
  by_cases j31 : (m : Int) = 31
  · rw [if_pos j31]; exact ⟨_, rfl, hcl, hno 31 (by omega) j31 _⟩
  rw [if_neg j31]
  by_cases j32 : (m : Int) = 32
  · rw [if_pos j32]; exact ⟨_, rfl, hcl, hno 32 (by omega) j32 _⟩
  rw [if_neg j32]
  by_cases j33 : (m : Int) = 33
  · rw [if_pos j33]; exact ⟨_, rfl, hcl, hno 33 (by omega) j33 _⟩
  rw [if_neg j33]
  by_cases j34 : (m : Int) = 34
  · rw [if_pos j34]; exact ⟨_, rfl, hcl, hno 34 (by omega) j34 _⟩
  rw [if_neg j34]
  by_cases j35 : (m : Int) = 35
  · rw [if_pos j35, hc70]; exact ⟨_, rfl, by show (p.Data.take 70).length ≤ 80; omega, hno 35 (by omega) j35 _⟩
  rw [if_neg j35]
  by_cases j36 : (m : Int) = 36
  · rw [if_pos j36]; exact ⟨_, rfl, hcl, hno 36 (by omega) j36 _⟩
  rw [if_neg j36]
  by_cases j37 : (m : Int) = 37
  · rw [if_pos j37]; exact ⟨_, rfl, hcl, hno 37 (by omega) j37 _⟩
  rw [if_neg j37]
  by_cases j38 : (m : Int) = 38
  · rw [if_pos j38]; exact ⟨_, rfl, hcl, hno 38 (by omega) j38 _⟩
  rw [if_neg j38]
  by_cases j39 : (m : Int) = 39
  · rw [if_pos j39, hf2, Option.bind_some, hn2]; exact ⟨_, rfl, hcl, hno 39 (by omega) j39 _⟩
  rw [if_neg j39]
  exact ⟨_, rfl, hcl, fun _ _ _ => hok⟩
/-- The statement PacketPacks. -/
theorem packs_plain (x y : api_Packet) (how other : Int) : haulierlaw06_PacketPacks x y how other = some true := by
  unfold haulierlaw06_PacketPacks
  obtain ⟨p, hp, hpd, _⟩ := play_eq x how
  obtain ⟨q, hq, hqd, _⟩ := play_eq y other
  rw [hp, Option.bind_some, hq, Option.bind_some]
  by_cases hok : Pok p
  · have hl := pkL_length (p := p) (by omega)
    rw [Pack_ok hok, Option.bind_some]
    simp only []
    rw [refPack_ok hok, Option.bind_some, Plain_ok hok, Option.bind_some]
    simp only []
    rw [refPlain_ok hok, Option.bind_some]
    simp only []
    rw [if_pos trivial, Option.bind_some, if_pos rfl, if_pos rfl, Check_eq, if_pos hok, Option.bind_some, if_pos rfl, SameB_self (by rw [sealL_length]; omega), Option.bind_some, if_pos rfl, SameB_self (by omega), Option.bind_some, if_pos rfl]
    rw [Same_eq, Option.bind_some, refSame_eq, Option.bind_some, if_pos (by simp), Same_eq, Option.bind_some, if_pos (by simp), wakes06]
    rfl
  · rw [Pack_bad hok, Option.bind_some]
    simp only []
    rw [refPack_bad hok, Option.bind_some, Plain_bad hok, Option.bind_some]
    simp only []
    rw [refPlain_bad hok, Option.bind_some]
    simp only []
    rw [if_neg (by decide), Option.bind_some, if_pos rfl, if_pos rfl, Check_eq, if_neg hok, Option.bind_some, if_pos rfl, SameB_self (by simp), Option.bind_some, if_pos rfl, Option.bind_some, if_pos rfl]
    rw [Same_eq, Option.bind_some, refSame_eq, Option.bind_some, if_pos (by simp), Same_eq, Option.bind_some, if_pos (by simp), wakes06]
    rfl
end Go.Proofs.Ytgobccnphhljcaa
