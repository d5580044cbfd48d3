/- The walks of the statements' own small helps: a number within a bound; the document's example. -/
import Derived.Test.YtgobccnphhljcaaWe
import Derived.Lib.SlBytesConst
namespace Go.Proofs.Ytgobccnphhljcaa
open Go.RowKit

set_option maxHeartbeats 800000 in
set_option maxRecDepth 100000 in
theorem Within_any (v n : Int) (w : World) (_h1 : -9223372036854775808 ≤ v) (_h2 : v ≤ 9223372036854775807) (_h3 : -9223372036854775808 ≤ n) (h4 : n ≤ 9223372036854775807) :
    Calls Try.prog 19 #[.int .i64 v, .int .i64 n] w fun e w' => e = .returned (.int .i64 (within v n)) ∧ w = w' := by
  by_cases hn : n < 1
  · have HW : Hid (within v n = 0) := by unfold Hid within; rw [if_pos hn]
    go_enter Try.func19, Try.ntmps19
    go_wp2
    go_ret
    exact ⟨by rw [HW.out]; rfl, rfl⟩
  · have hz : (n == 0) = false := by rw [beq_eq_false_iff_ne]; omega
    have hb := Int.tmod_lt_of_pos v (show 0 < n by omega)
    have hb2 := Int.lt_tmod_of_pos v (show 0 < n by omega)
    by_cases hk : v.tmod n < 0
    · have HW := Lib.hid (within_neg v n hn hk (by omega))
      go_enter Try.func19, Try.ntmps19
      go_wp2
      go_ret
      exact ⟨by rw [HW.out]; rfl, rfl⟩
    · have HW := Lib.hid (within_pos v n hn hk hb)
      go_enter Try.func19, Try.ntmps19
      go_wp2
      go_ret
      exact ⟨by rw [HW.out]; rfl, rfl⟩
#print axioms Within_any
theorem Within_some (v n : Int) (w : World) (h1 : -9223372036854775808 ≤ v) (h2 : v ≤ 9223372036854775807) (h3 : 1 ≤ n) (h4 : n ≤ 9223372036854775807) :
    Calls Try.prog 19 #[.int .i64 v, .int .i64 n] w fun e w' => ∃ z : Int, e = .returned (.int .i64 z) ∧ 0 ≤ z ∧ z < n ∧ Hid (within v n = z) ∧ w = w' :=
  (Within_any v n w h1 h2 (by omega) h4).mono fun _ _ ⟨he, hw⟩ => ⟨_, he, (within_range v n h3).1, (within_range v n h3).2, rfl, hw⟩

set_option maxHeartbeats 800000 in
set_option maxRecDepth 100000 in
theorem wakes02_any (w : World) :
    Calls Try.prog 20 #[] w fun e w' => e = .returned (.bool true) ∧ Below w.heap.size w w' := by
  have kc := fun (w : World) (C : Array Value) (n c : Nat) => Lib.run_convert_bytes_const (P := Try.prog) w 22 5 C n c Try.underlying22 Try.underlying5
  go_enter Try.func20, Try.ntmps20
  go_wp2_with (go_at_call 22; (refine (Table_any _).mono ?_); rintro e w1 ⟨aot, capt, rfl, hown, hbel⟩)
  have hal := Below.alloc (Below.refl w1.heap.size w1) (Nat.le_refl _) (.cells (([49, 50, 51, 52, 53, 54, 55, 56, 57] : List UInt8).map bv).toArray 5 (9, 10))
  have hr := reads_mark w1 (([49, 50, 51, 52, 53, 54, 55, 56, 57] : List UInt8).map bv).toArray 5 (9, 10) 9 rfl (by decide)
  refine (Of_any _ _ _ _ [49, 50, 51, 52, 53, 54, 55, 56, 57] 9 _ ((own_reads hown).below hal) hr).mono ?_
  rintro e w2 ⟨rfl, rfl⟩
  rw [crc_example]
  have hsz := hbel.size
  have hb := hbel.trans (hal.mono hsz)
  clear hal hr hown
  go_wp2
  go_ret
  exact ⟨rfl, hb⟩
#print axioms wakes02_any
end Go.Proofs.Ytgobccnphhljcaa
