/- The walks of the cyclic sum: a table's entry, a table, the sum of bytes. -/
import Derived.Test.YtcfapdamgbbklaaHa
import Derived.Test.YtcfapdamgbbklaaPa
namespace Go.Proofs.Ytcfapdamgbbklaa
open Go.RowKit

theorem Try.sU32 : SliceT Try.prog 66 35 (.int .u32 0) 4 := ⟨Try.underlying66, by kernel_rfl, rfl⟩
theorem Try.sU8 : SliceT Try.prog 27 5 (.int .u8 0) 1 := ⟨Try.underlying27, by kernel_rfl, rfl⟩
theorem ent_odd (s : UInt32) (h : s.toNat % 2 = 1) : bits .xor .u32 ((s.toNat : Int) / 2) 3988292384 = ((bstep s).toNat : Int) := by
  have h1 := bstep_toNat s
  have h2 := (bits32 (s / 2) 3988292384).1
  rw [if_pos h] at h1
  have h4 : ((s.toNat : Int) / 2) = ((s / 2).toNat : Int) := by simp
  rw [h4]
  rw [show ((3988292384 : UInt32).toNat : Int) = 3988292384 from rfl] at h2
  rw [h2, h1]; simp
theorem ent_even (s : UInt32) (h : ¬ s.toNat % 2 = 1) : ((s.toNat : Int) / 2) = ((bstep s).toNat : Int) := by
  have h1 := bstep_toNat s
  rw [if_neg h] at h1
  rw [h1]; omega

set_option maxHeartbeats 400000 in
set_option maxRecDepth 100000 in
theorem entry_any (n : UInt32) (w : World) :
    Calls Try.prog 48 #[.int .u32 (n.toNat : Int)] w fun e w' => e = .returned (.int .u32 ((bsteps 8 n).toNat : Int)) ∧ w = w' := by
  go_enter Try.func48, Try.ntmps48
  go_wp2
  go_loop [0, 3, 4] (fun x _ i => ∃ k : Nat, k ≤ 8 ∧ i = .int .i64 k ∧ x = .int .u32 ((bsteps k n).toNat : Int)) (fun _ _ i => 8 - (intOf i).toNat)
  case atStart => exact ⟨0, by omega, rfl, rfl⟩
  case round =>
    obtain ⟨k, hk, rfl, rfl⟩ := hrel
    have hlt := (bsteps k n).toNat_lt
    by_cases hk8 : k < 8
    · by_cases ho : (bsteps k n).toNat % 2 = 1
      · have hob : (((bsteps k n).toNat : Int) % 2 == 1) = true := by rw [beq_iff_eq]; omega
        go_wp2
        go_round
        case rel => exact ⟨k + 1, by omega, by go_num, by rw [ent_odd _ ho]; rfl⟩
        case measure => simp [intOf]; omega
      · have hob : (((bsteps k n).toNat : Int) % 2 == 1) = false := by rw [beq_eq_false_iff_ne]; omega
        go_wp2
        go_round
        case rel => exact ⟨k + 1, by omega, by go_num, by rw [ent_even _ ho]; rfl⟩
        case measure => simp [intOf]; omega
    · obtain rfl : k = 8 := by omega
      go_wp2
      go_ret
      exact ⟨rfl, rfl⟩
#print axioms entry_any

theorem entry_nat (n : Nat) (h : n < 4294967296) (w : World) :
    Calls Try.prog 48 #[.int .u32 (n : Int)] w fun e w' => e = .returned (.int .u32 ((bsteps 8 (UInt32.ofNat n)).toNat : Int)) ∧ w = w' := by
  have := entry_any (UInt32.ofNat n) w
  rw [show ((UInt32.ofNat n).toNat : Int) = (n : Int) from by rw [UInt32.toNat_ofNat']; simp; omega] at this
  exact this

theorem tab_snoc (k : Nat) (h : k < 256) : (tab.take (k + 1)).map wv = (tab.take k).map wv ++ [.int .u32 ((bsteps 8 (UInt32.ofNat k)).toNat : Int)] := by
  rw [← tab_get k h, List.take_succ_eq_append_getElem (by rw [tab_length]; exact h), List.map_append]
  simp [List.getD, tab_length, h]

set_option maxHeartbeats 400000 in
set_option maxRecDepth 100000 in
theorem Table_any (w : World) :
    Calls Try.prog 39 #[] w fun e w' => ∃ ao cap, e = .returned (.slice ao 256 cap) ∧ w'.ownsRow w.heap.size 35 1 (.slice ao 256 cap) 256 (tab.map wv) ∧ Below w.heap.size w w' := by
  go_enter Try.func39, Try.ntmps39
  go_wp2
  go_loopw [1, 2, 3] (fun v _ i wr => ∃ k ao cap : _, k ≤ 256 ∧ i = .int .u32 ((k : Nat) : Int) ∧ v = .slice ao k cap ∧ wr.ownsRow w.heap.size 35 1 (.slice ao k cap) k ((tab.take k).map wv) ∧ Below w.heap.size w wr) (fun _ _ i _ => 256 - (intOf i).toNat)
  case atStart => exact ⟨0, none, 0, by omega, rfl, rfl, World.ownsRow_nil _ _ _ _, Below.refl _ _⟩
  case round =>
    obtain ⟨k, ao, cap, hk, rfl, rfl, hown, hbel⟩ := hrel
    by_cases hk8 : k < 256
    · have hbs := hbel.size
      go_wp2_with (first | (go_at_call 48; with_reducible refine (entry_nat k (by omega) _).mono ?_; rintro e w1 ⟨rfl, rfl⟩) | (at_builtin; refine wpL_app1 Try.sU32 hown rfl hbs (by omega) (by omega) rfl rfl rfl rfl (fun ao' cap' w' hown' hbel' => ?_)))
      go_roundw
      case rel => exact ⟨k + 1, ao', cap', by omega, by go_num, rfl, by rw [tab_snoc k hk8]; exact hown', hbel.trans hbel'⟩
      case measure => simp [intOf]; omega
    · obtain rfl : k = 256 := by omega
      go_wp2
      go_ret
      exact ⟨_, _, rfl, by rw [List.take_of_length_le (by rw [tab_length]; omega)] at hown; exact hown, hbel⟩
#print axioms Table_any

theorem of_q (u : UInt32) (x : UInt8) : bits .xor .u8 ((u.toNat : Int) % 256) (x.toNat : Int) = ((u.toUInt8 ^^^ x).toNat : Int) := by
  rw [← (bits8 u.toUInt8 x).1, UInt32.toNat_toUInt8]; simp
theorem of_s (u : UInt32) (x : UInt8) (t : UInt32) (ht : tab[(u.toUInt8 ^^^ x).toNat]? = some t) : bits .xor .u32 ((u.toNat : Int) / 256) (t.toNat : Int) = ((cstep u x).toNat : Int) := by
  have h1 : (u.toNat : Int) / (256 : Int) = ((u >>> 8).toNat : Int) := by
    rw [UInt32.toNat_shiftRight]; simp [Nat.shiftRight_eq_div_pow]
  rw [h1, (bits32 _ _).1]; unfold cstep; rw [List.getD_eq_getElem?_getD, ht]; rfl
theorem of_not (u : UInt32) : bits .xor .u32 IntKind.u32.max (u.toNat : Int) = ((~~~ u).toNat : Int) := by
  have h := (bits32 4294967295 u).1
  rw [show ((4294967295 : UInt32).toNat : Int) = IntKind.u32.max from rfl] at h
  rw [h]
  have e : 4294967295 ^^^ u = ~~~ u := by
    apply UInt32.toBitVec_inj.1
    simp only [UInt32.toBitVec_xor, UInt32.toBitVec_not]
    exact BitVec.allOnes_xor
  rw [e]

set_option maxHeartbeats 400000 in
set_option maxRecDepth 100000 in
theorem Of_any (at_ ab : Option Addr) (ct cb : Nat) (b : List UInt8) (n : Nat) (w : World)
   (hrt : Reads w at_ 256 ct (tab.map wv)) (hrb : Reads w ab n cb (b.map bv)) :
    Calls Try.prog 38 #[.slice at_ 256 ct, .slice ab n cb] w fun e w' => e = .returned (.int .u32 ((crc b).toNat : Int)) ∧ w = w' := by
  have HN : Hid (b.length = n) := by have := hrb.1; unfold Hid; simpa using this
  have hmx : n ≤ 9223372036854775807 := by have h1 := hrb.2.1; have h2 := hrb.2.2.1; simp only [maxLen] at h2; omega
  go_enter Try.func38, Try.ntmps38
  go_wp2
  go_loop [5, 7, 13] (fun s _ i => ∃ k : Nat, k ≤ n ∧ i = .int .i64 k ∧ s = .int .u32 ((creg 4294967295 (b.take k)).toNat : Int)) (fun _ _ i => n - (intOf i).toNat)
  case atStart => exact ⟨0, by omega, rfl, rfl⟩
  case round =>
    obtain ⟨k, hk, rfl, rfl⟩ := hrel
    by_cases hlt : k < n
    · obtain ⟨a, x, rfl, hc, HX⟩ := hrb.at_b hlt
      have hsn := Lib.hid (creg_snoc 4294967295 b k x HX.out)
      generalize creg 4294967295 (b.take k) = u at hsn
      have hq := of_q u x
      obtain ⟨a2, t, rfl, hct, HT⟩ := hrt.at_w (k := (u.toUInt8 ^^^ x).toNat) (UInt8.toNat_lt _)
      have HS := Lib.hid (of_s u x t HT.out)
      have hq1 := (u.toUInt8 ^^^ x).toNat_lt
      generalize (u.toUInt8 ^^^ x).toNat = q at hq hct hq1
      clear hrt hrb HT HX
      go_wp2
      go_round
      case rel => exact ⟨k + 1, by omega, by go_num, by rw [HS.out, hsn.out]⟩
      case measure => simp [intOf]; omega
    · obtain rfl : n = k := by omega
      go_wp2
      go_ret
      have e : b.take n = b := List.take_of_length_le (by have := HN.out; omega)
      exact ⟨congrArg (fun x => Ending.returned (.int .u32 x)) (by rw [e]; exact of_not _), rfl⟩
#print axioms Of_any
end Go.Proofs.Ytcfapdamgbbklaa
