/- The walk: digits of bytes are turned. -/
import Derived.Test.YtcfapdamgbbklaaWd
import Derived.StillTailTactics
namespace Go.Proofs.Ytcfapdamgbbklaa
open Go.RowKit

theorem mask_bit (mask : UInt32) (k : Nat) : (bits .and .u32 ((mask.toNat : Int) / 2 ^ k) 1 == 0) = !mask.toNat.testBit k := by
  have hlt := mask.toNat_lt
  have h0 : mask.toNat / 2 ^ k < 4294967296 := Nat.lt_of_le_of_lt (Nat.div_le_self _ _) hlt
  have h1 : (mask.toNat : Int) / 2 ^ k = ((UInt32.ofNat (mask.toNat / 2 ^ k)).toNat : Int) := by
    rw [UInt32.toNat_ofNat', Nat.mod_eq_of_lt h0]; simp
  have h2 := (bits32 (UInt32.ofNat (mask.toNat / 2 ^ k)) 1).2.1
  rw [show ((1 : UInt32).toNat : Int) = 1 from rfl] at h2
  rw [h1, h2, UInt32.toNat_and, UInt32.toNat_ofNat', Nat.mod_eq_of_lt h0, show (1 : UInt32).toNat = 1 from rfl, Nat.and_one_is_mod, Nat.testBit_eq_decide_div_mod_eq]
  rcases Nat.mod_two_eq_zero_or_one (mask.toNat / 2 ^ k) with h | h <;> simp [h]

theorem shl_byte (r : Nat) (h : r < 8) : (2 : Int) ^ r % (256 : Int) = ((1 <<< UInt8.ofNat r : UInt8).toNat : Int) := by
  rcases (show r = 0 ∨ r = 1 ∨ r = 2 ∨ r = 3 ∨ r = 4 ∨ r = 5 ∨ r = 6 ∨ r = 7 from by omega) with rfl | rfl | rfl | rfl | rfl | rfl | rfl | rfl <;> decide
theorem spoil_step {b : List UInt8} {bit : Int} {mask : UInt32} {k t q r n : Nat} {x : UInt8} (hl : b.length = n) (ht : bit + k = t) (hm : mask.toNat.testBit k = true) (hq : t = 8 * q + r) (hr : r < 8) (hqn : q < n)
    (hx : (spoilTo b bit mask k).getD q 0 = x) :
    (spoilTo b bit mask (k + 1)).map bv = ((spoilTo b bit mask k).map bv).set q (.int .u8 (bits .xor .u8 (x.toNat : Int) ((2 : Int) ^ r % (256 : Int)))) := by
  rw [spoilTo, if_pos ⟨by omega, by omega, hm⟩, ht, Int.toNat_natCast, flipBit, show t / 8 = q from by omega, show t % 8 = r from by omega, hx, List.map_set, shl_byte r hr, (bits8 _ _).1]

set_option maxHeartbeats 1600000 in
set_option maxRecDepth 100000 in
theorem Spoilb_any (ao : Option Addr) (n c : Nat) (b : List UInt8) (bit : Int) (mask : UInt32) (w : World) (hr : Reads w ao n c (b.map bv)) (hn : n ≤ 140737488351300) (hb1 : -9223372036854775808 ≤ bit) (hb2 : bit ≤ 9223372036854775807) :
    Calls Try.prog 20 #[.slice ao n c, .int .i64 bit, .int .u32 (mask.toNat : Int)] w (FreshB w 5 (spoilL b bit mask)) := by
  have HBL : Hid (b.length = n) := by have := hr.1; unfold Hid; simpa using this
  go_enter Try.func20, Try.ntmps20
  go_wp2_with (go_at_call 18; (refine (Cloneb_any ao n c b _ hr (by omega)).mono ?_); rintro e w1 ⟨ao1, n1, cap1, rfl, hn1, hown1, hbel1⟩; obtain rfl : n1 = n := by rw [hn1.out, HBL.out])
  clear hr
  go_loopw [9, 10, 16] (fun _ _ i wr => ∃ k : Nat, k ≤ 32 ∧ i = .int .i64 k ∧ wr.ownsRow w.heap.size 5 1 (.slice ao1 n1 cap1) n1 ((spoilTo b bit mask k).map bv) ∧ Below w.heap.size w wr) (fun _ _ i _ => 32 - (intOf i).toNat)
  case atStart => exact ⟨0, by omega, rfl, hown1, hbel1⟩
  case round =>
    obtain ⟨k, hk, rfl, hown, hbel⟩ := hrel
    clear hown1 hbel1
    by_cases hlt : k < 32
    · by_cases hge : 8 * (n1 : Int) ≤ bit
      · have HS : Hid (spoilTo b bit mask (k + 1) = spoilTo b bit mask k) := by
          unfold Hid; rw [spoilTo, if_neg (by rw [HBL.out]; omega)]
        go_wp2
        go_roundw
        case rel => exact ⟨k + 1, by omega, by go_num, by rw [HS.out]; exact hown, hbel⟩
        case measure => simp [intOf]; omega
      · by_cases hneg : bit + k < 0
        · have HS : Hid (spoilTo b bit mask (k + 1) = spoilTo b bit mask k) := by
            unfold Hid; rw [spoilTo, if_neg (by omega)]
          go_wp2
          go_roundw
          case rel => exact ⟨k + 1, by omega, by go_num, by rw [HS.out]; exact hown, hbel⟩
          case measure => simp [intOf]; omega
        · by_cases hbig : 8 * (n1 : Int) ≤ bit + k
          · have HS : Hid (spoilTo b bit mask (k + 1) = spoilTo b bit mask k) := by
              unfold Hid; rw [spoilTo, if_neg (by rw [HBL.out]; omega)]
            go_wp2
            go_roundw
            case rel => exact ⟨k + 1, by omega, by go_num, by rw [HS.out]; exact hown, hbel⟩
            case measure => simp [intOf]; omega
          · obtain ⟨t, ht⟩ : ∃ t : Nat, bit + k = t := ⟨(bit + k).toNat, by omega⟩
            by_cases hm : mask.toNat.testBit k = true
            · have hmb : (bits .and .u32 ((mask.toNat : Int) / 2 ^ k) 1 == 0) = false := by rw [mask_bit, hm]; rfl
              obtain ⟨g, rfl, hg⟩ := own_addr hown (by omega)
              have hq : t / 8 < n1 := by omega
              obtain ⟨x, hx, HX⟩ : ∃ x, wr.cell? ⟨g, t / 8, none⟩ = some (.int .u8 (x.toNat : Int)) ∧ Hid ((spoilTo b bit mask k).getD (t / 8) 0 = x) := by
                refine ⟨_, ?_, rfl⟩
                rw [hown.cellAt (t / 8) (by omega)]
                have : t / 8 < (spoilTo b bit mask k).length := by rw [spoilTo_length, HBL.out]; exact hq
                simp [this, List.getD]
              have hf := hown.frozenAt (t / 8)
              have hw1 : IntKind.i64.wrap ((t : Int) / 8) = ((t / 8 : Nat) : Int) := by rw [IntKind.wrap_i64]; omega
              have hw2 : (t : Int).tmod 8 = ((t % 8 : Nat) : Int) := by rw [Int.tmod_eq_emod_of_nonneg (by omega)]; omega
              have hr8 : t % 8 < 8 := by omega
              have HQ : Hid (t = 8 * (t / 8) + t % 8) := by unfold Hid; omega
              have hq0 : (0 : Int) ≤ ((t / 8 : Nat) : Int) := by omega
              have hq1 : ((t / 8 : Nat) : Int) < (n1 : Int) := by omega
              have hr0 : (0 : Int) ≤ ((t % 8 : Nat) : Int) := by omega
              generalize t / 8 = q at *
              generalize t % 8 = r at *
              go_wp2
              go_still_tail 10, (by kernel_rfl)
              go_wp2
              go_roundw
              case rel =>
                have hs := hown.stored q (.int .u8 (bits .xor .u8 (x.toNat : Int) ((2 : Int) ^ r % (256 : Int))))
                refine ⟨k + 1, by omega, by go_num, ?_, ?_⟩
                · rw [spoil_step HBL.out ht hm HQ.out hr8 hq HX.out]
                  exact hs.1.drew
                · exact (hbel.setCell hg _).drew
              case measure => simp [intOf]; omega
            · have hmb : (bits .and .u32 ((mask.toNat : Int) / 2 ^ k) 1 == 0) = true := by rw [mask_bit]; simpa using hm
              have HS : Hid (spoilTo b bit mask (k + 1) = spoilTo b bit mask k) := by
                unfold Hid; rw [spoilTo, if_neg (fun h => hm h.2.2)]
              go_wp2
              go_roundw
              case rel => exact ⟨k + 1, by omega, by go_num, by rw [HS.out]; exact hown, hbel⟩
              case measure => simp [intOf]; omega
    · obtain rfl : k = 32 := by omega
      go_wp2
      go_ret
      exact ⟨_, _, _, rfl, by unfold Hid; rw [spoilL, spoilTo_length, HBL.out], hown, hbel⟩
#print axioms Spoilb_any
end Go.Proofs.Ytcfapdamgbbklaa
