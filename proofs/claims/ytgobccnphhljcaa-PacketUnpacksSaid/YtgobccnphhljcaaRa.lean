/- The walks of the document's own sums: bytes are summed, sealed, opened, spoilt. -/
import Derived.Test.YtgobccnphhljcaaWf
import Derived.Test.YtgobccnphhljcaaPc
namespace Go.Proofs.Ytgobccnphhljcaa
open Go.RowKit

theorem ref_step (s : UInt32) (x : UInt8) : bits .xor .u32 (s.toNat : Int) ((x.toNat : Int) % (4294967296 : Int)) = ((s ^^^ x.toUInt32).toNat : Int) := by
  have hx := x.toNat_lt
  rw [show (x.toNat : Int) % (4294967296 : Int) = (x.toNat : Int) from by omega, ← (bits32 s x.toUInt32).1, UInt8.toNat_toUInt32]
theorem ref_eight (s : UInt32) (x : UInt8) : bsteps 8 (s ^^^ x.toUInt32) = cstep s x := by
  apply UInt32.toNat_inj.1
  rw [cstep_num, bsteps_toNat, UInt32.toNat_xor, UInt8.toNat_toUInt32]
theorem ref_not (u : UInt32) : IntKind.u32.wrap (-(u.toNat : Int) - 1) = ((~~~ u).toNat : Int) := by
  have h := u.toNat_lt
  rw [UInt32.toNat_not]
  simp only [IntKind.wrap, IntKind.bits, IntKind.signed]; simp; omega

set_option maxHeartbeats 1600000 in
set_option maxRecDepth 100000 in
theorem RSum_any (ao : Option Addr) (n c : Nat) (b : List UInt8) (w : World) (hr : Reads w ao n c (b.map bv)) :
    Calls Try.prog 25 #[.slice ao n c] w fun e w' => e = .returned (.int .u32 ((crc b).toNat : Int)) ∧ w = w' := by
  have HN : Hid (b.length = n) := by have := hr.1; unfold Hid; simpa using this
  have hmx : n ≤ 9223372036854775807 := by have h1 := hr.2.1; have h2 := hr.2.2.1; simp only [maxLen] at h2; omega
  go_enter Try.func25, Try.ntmps25
  go_wp2
  go_loop [3, 5, 6, 9] (fun s _ _ i => ∃ k : Nat, k ≤ n ∧ i = .int .i64 k ∧ s = .int .u32 ((creg 4294967295 (b.take k)).toNat : Int)) (fun _ _ _ i => n - (intOf i).toNat)
  case atStart => exact ⟨0, by omega, rfl, rfl⟩
  case round =>
    obtain ⟨k, hk, rfl, rfl⟩ := hrel
    by_cases hlt : k < n
    · obtain ⟨a, x, rfl, hc, HX⟩ := hr.at_b hlt
      have HS := Lib.hid (creg_snoc 4294967295 b k x HX.out)
      generalize creg 4294967295 (b.take k) = u at HS
      have hxx := ref_step u x
      have HE := Lib.hid (ref_eight u x)
      generalize u ^^^ x.toUInt32 = y at hxx HE
      rw [← HE.out] at HS
      clear hr HX HE
      go_wp2
      go_loop [3, 6] (fun s j => ∃ m : Nat, m ≤ 8 ∧ j = .int .i64 m ∧ s = .int .u32 ((bsteps m y).toNat : Int)) (fun _ j => 8 - (intOf j).toNat)
      case atStart => exact ⟨0, by omega, rfl, rfl⟩
      case round =>
        obtain ⟨m, hm, rfl, rfl⟩ := hrel
        have hlt := (bsteps m y).toNat_lt
        by_cases hm8 : m < 8
        · by_cases ho : (bsteps m y).toNat % 2 = 1
          · have hob : (((bsteps m y).toNat : Int) % 2 == 1) = true := by rw [beq_iff_eq]; omega
            go_wp2
            go_round
            case rel => exact ⟨m + 1, by omega, by go_num, by rw [ent_odd _ ho]; rfl⟩
            case measure => simp [intOf]; omega
          · have hob : (((bsteps m y).toNat : Int) % 2 == 1) = false := by rw [beq_eq_false_iff_ne]; omega
            go_wp2
            go_round
            case rel => exact ⟨m + 1, by omega, by go_num, by rw [ent_even _ ho]; rfl⟩
            case measure => simp [intOf]; omega
        · obtain rfl : m = 8 := by omega
          go_wp2
          go_round
          case rel => exact ⟨k + 1, by omega, by go_num, by rw [HS.out]⟩
          case measure => simp [intOf]; omega
    · obtain rfl : n = k := by omega
      have e : b.take n = b := List.take_of_length_le (by have := HN.out; omega)
      rw [e]
      have HNOT := Lib.hid (of_not (creg 4294967295 b))
      go_wp2
      go_ret
      exact ⟨congrArg (fun x => Ending.returned (.int .u32 x)) (HNOT.out), rfl⟩
#print axioms RSum_any

theorem le4_vals (s : UInt32) : [Value.int .u8 ((s.toNat : Int) % (256 : Int)), .int .u8 ((s.toNat : Int) / (256 : Int) % (256 : Int)), .int .u8 ((s.toNat : Int) / (65536 : Int) % (256 : Int)), .int .u8 ((s.toNat : Int) / (16777216 : Int))] = (le4 s).map bv := by
  have h := s.toNat_lt
  have e0 : (s.toUInt8.toNat : Int) = (s.toNat : Int) % (256 : Int) := by rw [UInt32.toNat_toUInt8]; omega
  have e1 : ((s >>> 8).toUInt8.toNat : Int) = (s.toNat : Int) / (256 : Int) % (256 : Int) := by
    rw [UInt32.toNat_toUInt8, UInt32.toNat_shiftRight]; simp [Nat.shiftRight_eq_div_pow]
  have e2 : ((s >>> 16).toUInt8.toNat : Int) = (s.toNat : Int) / (65536 : Int) % (256 : Int) := by
    rw [UInt32.toNat_toUInt8, UInt32.toNat_shiftRight]; simp [Nat.shiftRight_eq_div_pow]
  have e3 : ((s >>> 24).toUInt8.toNat : Int) = (s.toNat : Int) / (16777216 : Int) := by
    rw [UInt32.toNat_toUInt8, UInt32.toNat_shiftRight]; simp [Nat.shiftRight_eq_div_pow]; omega
  show _ = [Value.int .u8 (s.toUInt8.toNat : Int), .int .u8 ((s >>> 8).toUInt8.toNat : Int), .int .u8 ((s >>> 16).toUInt8.toNat : Int), .int .u8 ((s >>> 24).toUInt8.toNat : Int)]
  rw [e0, e1, e2, e3]

set_option maxHeartbeats 1600000 in
set_option maxRecDepth 100000 in
theorem RSeal_any (ao : Option Addr) (n c : Nat) (b : List UInt8) (w : World) (hr : Reads w ao n c (b.map bv)) (hn : n ≤ 140737488351300) :
    Calls Try.prog 26 #[.slice ao n c] w (FreshB w 5 (sealL b)) := by
  have HN : Hid (b.length = n) := by have := hr.1; unfold Hid; simpa using this
  have HL := Lib.hid (sealL_length b)
  have HLE := Lib.hid (show (sealL b).map bv = b.map bv ++ [Value.int .u8 (((crc b).toNat : Int) % (256 : Int)), .int .u8 (((crc b).toNat : Int) / (256 : Int) % (256 : Int)), .int .u8 (((crc b).toNat : Int) / (65536 : Int) % (256 : Int)), .int .u8 (((crc b).toNat : Int) / (16777216 : Int))] from by rw [le4_vals]; simp [sealL])
  generalize hq : sealL b = q at *
  clear hq
  go_enter Try.func26, Try.ntmps26
  go_wp2_with fail
  refine (RSum_any ao n c b w hr).mono ?_
  rintro e w1 ⟨rfl, rfl⟩
  generalize crc b = s at *
  have hlt := s.toNat_lt
  go_wp2_with (first | (at_builtin; refine wpL_cp Try.sU8 (own_nil w w.heap.size _) hr (bv_one _) (Nat.le_refl _) (by omega) (by omega) rfl rfl rfl rfl (fun ao' cap' w' hown' hbel' => ?_)) | (at_builtin; refine wpL_appN Try.sU8 (hown'.alloc _) (reads_new w' _ _ 4 rfl (by decide)) (by intro u hu; simp at hu; rcases hu with rfl | rfl | rfl | rfl <;> rfl) (by have := hbel'.size; simp; omega) (by omega) (by omega) rfl rfl rfl rfl (fun ao2 cap2 w2 hown2 hbel2 => ?_)))
  go_ret
  have hsz := hbel'.size
  refine ⟨_, _, _, rfl, by unfold Hid; rw [HL.out, HN.out], by rw [HLE.out]; exact hown2, (hbel'.alloc hsz _).trans hbel2⟩
#print axioms RSeal_any
end Go.Proofs.Ytgobccnphhljcaa
