/- The walks of the library's small functions on bytes. -/
import Derived.Test.YtgobccnphhljcaaWa
namespace Go.Proofs.Ytgobccnphhljcaa
open Go.RowKit

/-- A new slice of bytes is handed back; what was there is there. -/
def FreshB (w : World) (E : TypeId) (xs : List UInt8) (e : Ending) (w' : World) : Prop :=
  ∃ ao n cap, e = .returned (.slice ao n cap) ∧ Hid (n = xs.length) ∧ w'.ownsRow w.heap.size E 1 (.slice ao n cap) n (xs.map bv) ∧ Below w.heap.size w w'

set_option maxHeartbeats 400000 in
set_option maxRecDepth 100000 in
theorem Copyb_any (ao : Option Addr) (n c : Nat) (b : List UInt8) (w : World) (hr : Reads w ao n c (b.map bv)) (hn : n ≤ 140737488355328) :
    Calls Try.prog 43 #[.slice ao n c] w (FreshB w 5 b) := by
  have HL : Hid (n = b.length) := by have := hr.1; unfold Hid; simpa using this.symm
  go_enter Try.func43, Try.ntmps43
  go_wp2_with (at_builtin; refine wpL_cp Try.sU8 (own_nil w w.heap.size _) hr (bv_one _) (Nat.le_refl _) (by omega) (by omega) rfl rfl rfl rfl (fun ao' cap' w' hown' hbel' => ?_))
  go_ret
  exact ⟨_, _, _, rfl, HL, hown', hbel'⟩

set_option maxHeartbeats 400000 in
set_option maxRecDepth 100000 in
theorem Cloneb_any (ao : Option Addr) (n c : Nat) (b : List UInt8) (w : World) (hr : Reads w ao n c (b.map bv)) (hn : n ≤ 140737488355328) :
    Calls Try.prog 57 #[.slice ao n c] w (FreshB w 5 b) := by
  have HL : Hid (n = b.length) := by have := hr.1; unfold Hid; simpa using this.symm
  have hq := fun (w : World) => Lib.run_eql_slice_nil (P := Try.prog) w 22 5 ao n c 0 0 Try.underlying22
  cases ao with
  | none =>
    have hc := hr.2.2.2.1 rfl
    have hb : b = [] := by have := hr.2.2.2.2.1 rfl; simpa using this
    have hn0 : n = 0 := by have := hr.2.1; omega
    subst hc hb hn0
    clear hr
    go_enter Try.func57, Try.ntmps57
    go_wp2
    go_ret
    exact ⟨_, _, _, rfl, HL, own_nil _ _ _, Below.refl _ _⟩
  | some a =>
    have hq' : (some a).isNone = false := rfl
    go_enter Try.func57, Try.ntmps57
    go_wp2_with (at_builtin; refine wpL_cp Try.sU8 (own_empty w _) (hr.below (Below.alloc (Below.refl _ _) (Nat.le_refl _) _)) (bv_one _) (by simp) (by omega) (by omega) rfl rfl rfl rfl (fun ao' cap' w' hown' hbel' => ?_))
    go_ret
    exact ⟨_, _, _, rfl, HL, hown', (Below.alloc (Below.refl _ _) (Nat.le_refl _) _).trans hbel'⟩

/-- The digits of a number, at most n. -/
def cutL (b : List UInt8) (n : Nat) : List UInt8 := b.take n

set_option maxHeartbeats 400000 in
set_option maxRecDepth 100000 in
theorem Cutb_any (ao : Option Addr) (n c : Nat) (b : List UInt8) (k : Nat) (w : World) (hr : Reads w ao n c (b.map bv)) (hk : k ≤ 1000000) :
    Calls Try.prog 15 #[.slice ao n c, .int .i64 (k : Int)] w (FreshB w 5 (b.take k)) := by
  have h1 := hr.2.1
  have h2 : c ≤ 9223372036854775807 := by have h2 := hr.2.2.1; simpa only [maxLen] using h2
  go_enter Try.func15, Try.ntmps15
  by_cases hkn : k < n
  · have hp := hr.upto (k := k) (by omega)
    rw [← List.map_take] at hp
    go_wp2_with (go_at_call 43; (with_reducible refine (Copyb_any ao k c _ _ hp (by omega)).mono ?_); rintro e w1 ⟨ao', n', cap', rfl, hn', hown', hbel'⟩)
    go_ret
    exact ⟨_, _, _, rfl, hn', hown', hbel'⟩
  · have hb : b.take k = b := List.take_of_length_le (by have := hr.1; simp at this; omega)
    have HB := Lib.hid hb; clear hb
    go_wp2_with (go_at_call 43; (with_reducible refine (Copyb_any ao n c _ _ hr (by omega)).mono ?_); rintro e w1 ⟨ao', n', cap', rfl, hn', hown', hbel'⟩)
    go_ret
    refine ⟨_, _, _, rfl, ?_, ?_, hbel'⟩
    · rw [HB.out]; exact hn'
    · rw [HB.out]; exact hown'

/-- Bytes as a string. -/
def strB (b : List UInt8) : ByteArray := ⟨b.toArray⟩
theorem strB_inj {a b : List UInt8} (h : strB a = strB b) : a = b := by
  have : a.toArray = b.toArray := congrArg ByteArray.data h
  simpa using this

theorem Reads.convert {P : Program} {w : World} {ao : Option Addr} {n c : Nat} {b : List UInt8} (h : Reads w ao n c (b.map bv)) (src e dst : TypeId)
    (hs : P.underlying src = some (.slice e)) (he : P.underlying e = some (.int .u8)) (hd : P.underlying dst = some .string) :
    (convert src dst (.slice ao n c)).run P w = .ok (.string (strB b)) w := by
  have hstr : strOfNums (b.map fun x => (x.toNat : Int)) = strB b := by
    unfold strOfNums strB
    congr 1
    simp [Function.comp_def]
  have hl : b.length = n := by simpa using h.1
  cases ao with
  | none =>
    have : b = [] := by simpa using h.2.2.2.2.1 rfl
    subst this
    rw [run_convert_bytes_nil (P := P) w src e hs he n c dst hd]; rfl
  | some a =>
    have hbm : b.map bv = (b.map fun x => (x.toNat : Int)).map (Value.int .u8) := by simp [Function.comp_def]
    have hld : (loadCells a n).run P w = .ok ((b.map fun x => (x.toNat : Int)).map (Value.int .u8)).toArray w := by
      have := run_loadCells_list (P := P) w a (b.map bv) (h.2.2.2.2.2 a rfl)
      rw [hbm] at this
      simpa [hl] using this
    rw [run_convert_bytes_string w src dst e _ n c hs he hd, run_bytesToString w a n c _ hld, foldl_push_bytes, ← hstr]
    simp [strOfNums, ByteArray.empty, ByteArray.emptyWithCapacity]
    rfl

theorem strB_toList (b : List UInt8) : (strB b).toList = b := by
  unfold ByteArray.toList
  rw [ByteArray.toList_loop_eq (strB b) (strB b).size 0 [] (by omega) (by omega)]
  simp [strB]

set_option maxHeartbeats 400000 in
set_option maxRecDepth 100000 in
theorem Equalb_any (ao ao2 : Option Addr) (n c n2 c2 : Nat) (b b2 : List UInt8) (w : World) (hr : Reads w ao n c (b.map bv)) (hr2 : Reads w ao2 n2 c2 (b2.map bv)) :
    Calls Try.prog 56 #[.slice ao n c, .slice ao2 n2 c2] w fun e w' => e = .returned (.bool (b == b2)) ∧ w = w' := by
  have hc1 := hr.convert (P := Try.prog) 22 5 9 Try.underlying22 Try.underlying5 Try.underlying9
  have hc2 := hr2.convert (P := Try.prog) 22 5 9 Try.underlying22 Try.underlying5 Try.underlying9
  clear hr hr2
  have HE : Hid (((strB b).toList == (strB b2).toList) = (b == b2)) := by unfold Hid; rw [strB_toList, strB_toList]
  generalize strB b = s at hc1 HE
  generalize strB b2 = s2 at hc2 HE
  go_enter Try.func56, Try.ntmps56
  go_wp2
  go_ret
  exact ⟨congrArg (fun x => Ending.returned (.bool x)) HE.out, rfl⟩

set_option maxHeartbeats 400000 in
set_option maxRecDepth 100000 in
theorem Sameb_any (ao ao2 : Option Addr) (n c n2 c2 : Nat) (b b2 : List UInt8) (w : World) (hr : Reads w ao n c (b.map bv)) (hr2 : Reads w ao2 n2 c2 (b2.map bv)) :
    Calls Try.prog 17 #[.slice ao n c, .slice ao2 n2 c2] w fun e w' => e = .returned (.bool (b == b2)) ∧ ∃ d, w' = w.drewN d := by
  have HN : Hid (b.length = n) := by have := hr.1; unfold Hid; simpa using this
  have HN2 : Hid (b2.length = n2) := by have := hr2.1; unfold Hid; simpa using this
  have hmx : n ≤ 9223372036854775807 := by have h1 := hr.2.1; have h2 := hr.2.2.1; simp only [maxLen] at h2; omega
  by_cases hne : n = n2
  · subst hne
    go_enter Try.func17, Try.ntmps17
    go_wp2
    go_loopw [5] (fun i wr => ∃ k : Nat, k ≤ n ∧ i = .int .i64 k ∧ b.take k = b2.take k ∧ ∃ d, wr = w.drewN d) (fun i _ => n - (intOf i).toNat)
    case atStart => exact ⟨0, by omega, rfl, rfl, 0, rfl⟩
    case round =>
      obtain ⟨k, hk, rfl, heq, d, rfl⟩ := hrel
      have HEQ := Lib.hid heq; clear heq
      by_cases hlt : k < n
      · obtain ⟨a, x, rfl, hc, HX⟩ := hr.at_b hlt
        obtain ⟨a2, x2, rfl, hc2, HX2⟩ := hr2.at_b hlt
        clear hr hr2
        by_cases hx : x = x2
        · subst hx
          have HK : Hid (b.take (k + 1) = b2.take (k + 1)) := by
            unfold Hid; rw [List.take_add_one, List.take_add_one, HEQ.out, HX.out, HX2.out]
          have hd : ((x.toNat : Int) != (x.toNat : Int)) = false := by simp
          go_wp2
          go_quiet (fail)
          go_wp2
          go_roundw
          case rel => exact ⟨k + 1, by omega, by go_num, HK.out, _, rfl⟩
          case measure => simp [intOf]; omega
        · have HF : Hid ((b == b2) = false) := by
            unfold Hid
            rw [beq_eq_false_iff_ne]
            intro e; subst e
            have h1 := HX.out; have h2 := HX2.out; unfold Hid at h1 h2
            rw [h1] at h2
            exact hx (Option.some.inj h2)
          have hd : ((x.toNat : Int) != (x2.toNat : Int)) = true := by
            rw [bne_iff_ne]; intro e; exact hx (UInt8.toNat_inj.1 (by omega))
          go_wp2
          go_quiet (fail)
          go_wp2
          go_ret
          exact ⟨by rw [HF.out]; rfl, _, World.drewN_drewN _ _ _⟩
      · obtain rfl : n = k := by omega
        have HT : Hid ((b == b2) = true) := by
          unfold Hid
          have h1 := HEQ.out
          rw [List.take_of_length_le (by have := HN.out; omega), List.take_of_length_le (by have := HN2.out; omega)] at h1
          rw [h1]; exact beq_self_eq_true _
        clear hr hr2
        go_wp2
        go_ret
        exact ⟨by rw [HT.out]; rfl, _, rfl⟩
  · have HF : Hid ((b == b2) = false) := by
      unfold Hid
      rw [beq_eq_false_iff_ne]
      intro e; subst e
      have h1 := HN.out; have h2 := HN2.out; omega
    have hd : ((n : Int) != (n2 : Int)) = true := by rw [bne_iff_ne]; omega
    go_enter Try.func17, Try.ntmps17
    go_wp2
    go_ret
    exact ⟨by rw [HF.out]; rfl, 0, rfl⟩
#print axioms Sameb_any
end Go.Proofs.Ytgobccnphhljcaa
