/- The statement PacketUnpacks, of the printed plain functions. -/
import Derived.Test.YtgobccnphhljcaaQn
namespace Go.Proofs.Ytgobccnphhljcaa
set_option linter.unusedVariables false

theorem unpack_both {b : List UInt8} (h : b.length ≤ 140737488351300) : ∃ p ok, packet_Unpack b = some (p, if ok = true then 0 else 2) ∧ haulierref01_Unpack b = some (p, ok) ∧ (ok = false → p = pk0) := by
  unfold packet_Unpack haulierref01_Unpack haulierref01_Open sum_Open
  rw [if_pos (by simp [lim14]; omega), Option.bind_some, Option.bind_some]
  simp only []
  cases ho : openB b with
  | false => exact ⟨_, false, rfl, rfl, fun _ => rfl⟩
  | true =>
    rw [if_pos rfl, if_pos rfl]
    have hl : (openL b).length ≤ b.length := by unfold openL; split <;> simp
    generalize openL b = x at *
    rw [New_eq (by omega), Option.bind_some]
    obtain ⟨p, ok, s, t, h1, h2, h3, h4, h5⟩ := take_both (b := x) (i := 0) (by omega) (Nat.zero_le _)
    rw [h1, Option.bind_some, show (⟨x, 0, false⟩ : haulierref01_Reader) = rref x 0 false from rfl, h2, Option.bind_some]
    simp only []
    rcases h5 with ⟨rfl, rfl⟩ | ⟨rfl, h6, h7, rfl, rfl⟩
    · exact ⟨_, false, rfl, rfl, fun _ => rfl⟩
    · rw [if_pos rfl, if_pos rfl]
      obtain ⟨j, bad, e, _, hj⟩ := h4
      have hle : 0 + (pkL p).length ≤ x.length := by
        simp only [rdr, span_Reader.mk.injEq] at e
        omega
      rw [Left_eq (by omega) hle, Option.bind_some]
      simp only []
      by_cases he : (pkL p).length = x.length
      · rw [if_neg (by simp; omega), if_neg (by simp; omega)]
        exact ⟨_, true, rfl, rfl, fun h => by cases h⟩
      · rw [if_pos (by simp; omega), if_pos (by simp; omega)]
        exact ⟨_, false, rfl, rfl, fun _ => rfl⟩
theorem unpacks_tail {b : List UInt8} (h : b.length ≤ 140737488351290) (sealed : Bool) :
    ((span_New b).bind fun s222 => (haulierkeep_Copy_byte b).bind fun x229 => (packet_Take s222).bind fun (x239, x240, s241) => (haulierref01_TakePacket (⟨x229, 0, false⟩ : haulierref01_Reader)).bind fun (x254, x255, s256) =>
      ((if (x240 == x255) = true then (haulierref01_Same x239 x254).bind fun x322 => if x322 = true then if x240 = true then (span_Reader_At s241).bind fun (x329, s330) => some (decide (x329 ≠ s256.At)) else some false else some true else some true : Option Bool)).bind fun x316 =>
      if x316 = true then some false else
      ((if sealed = true then (haulierref01_Seal b).bind fun x361 => some x361 else some b : Option (List UInt8))).bind fun x355 =>
      (haulierkeep_Lend x355).bind fun x374 => (packet_Unpack x374).bind fun (x383, x384) => (haulierref01_Unpack x355).bind fun (x394, x395) =>
      if ((decide (x384 = 0)) == x395) = true then
        if x395 = true then (haulierref01_Same x383 x394).bind fun x407 => if x407 = true then (haulierkeep_Intact x374 x355).bind fun x413 => if x413 = true then (haulierlaw06_wakes).bind fun x419 => some x419 else some false else some false
        else if x384 = 2 then (haulierref01_Same x383 x394).bind fun x425 => if x425 = true then (haulierkeep_Intact x374 x355).bind fun x431 => if x431 = true then (haulierlaw06_wakes).bind fun x437 => some x437 else some false else some false else some false
      else some false) = some true := by
  rw [New_eq (by omega), Option.bind_some, Copy_eq (by omega), Option.bind_some]
  obtain ⟨p, ok, s, t, h1, h2, h3, h4, h5⟩ := take_both (b := b) (i := 0) (by omega) (Nat.zero_le _)
  rw [h1, Option.bind_some]
  simp only []
  rw [show (⟨b, 0, false⟩ : haulierref01_Reader) = rref b 0 false from rfl, h2, Option.bind_some]
  simp only []
  have hm : ((if (ok == ok) = true then (haulierref01_Same p p).bind fun x322 => if x322 = true then if ok = true then (span_Reader_At s).bind fun x => some (decide (x.1 ≠ t.At)) else some false else some true else some true : Option Bool)) = some false := by
    rw [if_pos (by simp), refSame_eq, Option.bind_some, if_pos (by simp)]
    cases ok with
    | false => rfl
    | true =>
      rw [if_pos rfl]
      show some (decide (s.at_ ≠ t.At)) = _
      rw [(h3 rfl).1]; simp
  rw [hm, Option.bind_some, if_neg (by decide)]
  have hs : ∃ y : List UInt8, ((if sealed = true then (haulierref01_Seal b).bind fun x361 => some x361 else some b : Option (List UInt8))) = some y ∧ y.length ≤ 140737488351300 := by
    cases sealed with
    | false => exact ⟨b, rfl, by omega⟩
    | true =>
      unfold haulierref01_Seal sum_Seal
      rw [if_pos rfl, if_pos (by simp [lim14]; omega)]
      exact ⟨_, rfl, by rw [sealL_length]; omega⟩
  obtain ⟨y, hy, hyl⟩ := hs
  rw [hy, Option.bind_some]
  unfold haulierkeep_Lend
  rw [if_pos (by simp [lim14]; omega), Option.bind_some]
  obtain ⟨q, is, r1, r2, r3⟩ := unpack_both hyl
  rw [r1, Option.bind_some]
  simp only []
  rw [r2, Option.bind_some]
  simp only []
  have hi : haulierkeep_Intact y y = some true := by
    unfold haulierkeep_Intact
    rw [if_pos ⟨rfl, by simp [lim14]; omega⟩]
  cases is with
  | false => rw [if_pos (by simp), if_neg (by decide), if_pos (by simp), refSame_eq, Option.bind_some, if_pos (by simp), hi, Option.bind_some, if_pos rfl, wakes06]; rfl
  | true => rw [if_pos (by simp), if_pos rfl, refSame_eq, Option.bind_some, if_pos (by simp), hi, Option.bind_some, if_pos rfl, wakes06]; rfl
theorem Cut_int {l : List UInt8} {n : Int} (h : 0 ≤ n) (h2 : n ≤ 100) : haulierkeep_Cut_byte l n = some (l.take n.toNat) := by
  obtain ⟨m, rfl⟩ := Int.eq_ofNat_of_zero_le h
  exact Cut_eq (by omega)
theorem unpacks_plain (b : List UInt8) (h : b.length ≤ 140737488351232) (x : api_Packet) (how cutAt flip : Int) (sealed raw : Bool) : haulierlaw06_PacketUnpacks b x how cutAt flip sealed raw = some true := by
  unfold haulierlaw06_PacketUnpacks
  cases raw with
  | true =>
    rw [if_pos rfl, Option.bind_some]
    exact unpacks_tail (by omega) sealed
  | false =>
    rw [if_neg (by decide)]
    obtain ⟨m, hm, hm1⟩ := Within_eq (a := how) (n := 29) (by decide) (by decide)
    obtain ⟨p, hp, hpd, hpp⟩ := play_eq x (m : Int)
    have hok : Pok p := hpp (m : Int) (Within_small (by omega) (by omega) (by decide)) (by omega)
    have hl := pkL_length (p := p) (by omega)
    rw [hm, Option.bind_some, show (⟨x.Kind, x.Path, x.Number, x.Of, x.From, x.Data, x.Fin, x.Seen, x.Limit⟩ : api_Packet) = x from rfl, hp, Option.bind_some]
    rw [show (⟨p.Kind, p.Path, p.Number, p.Of, p.From, p.Data, p.Fin, p.Seen, p.Limit⟩ : api_Packet) = p from rfl, refPlain_ok hok, Option.bind_some]
    simp only []
    rw [w64_small (n := 3 * ((pkL p).length : Int)) (by omega) (by omega), w64_small (by omega) (by omega), Option.bind_some]
    obtain ⟨c, hc, hc1⟩ := Within_eq (a := cutAt) (n := 3 * ((pkL p).length : Int) + 1) (by omega) (by omega)
    rw [hc, Option.bind_some]
    have hy : ∃ y : List UInt8, ((if (c : Int) < ((pkL p).length : Int) then (cut (pkL p) 0 (c : Int)).bind fun y156 => some y156 else some (pkL p) : Option (List UInt8))) = some y ∧ y.length ≤ 1100 := by
      by_cases hcl : c < (pkL p).length
      · rw [if_pos (by omega), cut0 (by omega)]
        exact ⟨_, rfl, by rw [List.length_take]; omega⟩
      · rw [if_neg (by omega)]
        exact ⟨_, rfl, hl⟩
    obtain ⟨y, hy, hyl⟩ := hy
    rw [hy, Option.bind_some, w64_small (n := 20 * (y.length : Int)) (by omega) (by omega), w64_small (n := 20 * (y.length : Int) + 1) (by omega) (by omega), Option.bind_some]
    obtain ⟨f, hf, hf1⟩ := Within_eq (a := flip) (n := 20 * (y.length : Int) + 1) (by omega) (by omega)
    rw [hf, Option.bind_some, w64_small (n := 8 * (y.length : Int)) (by omega) (by omega)]
    obtain ⟨g, hg, hg1⟩ := Within_eq (a := w64 (how.tdiv 29)) (n := 3) (by omega) (by omega)
    have hg2 : w64 ((g : Int).tdiv 2) = ((g / 2 : Nat) : Int) := by
      rw [show (g : Int).tdiv 2 = ((g / 2 : Nat) : Int) from rfl, w64_small (by omega) (by omega)]
    have hcut : haulierkeep_Cut_byte b ((g / 2 : Nat) : Int) = some (b.take (g / 2)) := Cut_eq (by omega)
    have htl : (b.take (g / 2)).length ≤ 1 := by rw [List.length_take]; omega
    rw [hg]
    by_cases hfl : f < 8 * y.length
    · have hd8 : w64 ((f : Int).tdiv 8) = ((f / 8 : Nat) : Int) := by
        rw [show (f : Int).tdiv 8 = ((f / 8 : Nat) : Int) from rfl, w64_small (by omega) (by omega)]
      rw [if_pos (by omega), hd8, if_pos ⟨by omega, by omega⟩, Int.toNat_natCast, List.getElem?_eq_getElem (by omega), Option.bind_some, if_pos ⟨by omega, by omega⟩, Option.bind_some, Option.bind_some, hg2, hcut, Option.bind_some]
      rw [if_pos ⟨by unfold fits; rw [List.length_set]; omega, by rw [List.length_set]; omega⟩, Option.bind_some]
      exact unpacks_tail (by rw [List.length_append, List.length_set]; omega) sealed
    · rw [if_neg (by omega), Option.bind_some, hg2, hcut, Option.bind_some, if_pos ⟨by unfold fits; omega, by omega⟩, Option.bind_some]
      exact unpacks_tail (by rw [List.length_append]; omega) sealed
end Go.Proofs.Ytgobccnphhljcaa
