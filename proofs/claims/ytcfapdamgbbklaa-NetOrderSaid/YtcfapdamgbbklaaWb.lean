/- The walks of the library's small functions on bytes. -/
import Derived.Test.YtcfapdamgbbklaaWa
namespace Go.Proofs.Ytcfapdamgbbklaa
open Go.RowKit

/-- A new slice of bytes is handed back; what was there is there. -/
def FreshB (w : World) (E : TypeId) (xs : List UInt8) (e : Ending) (w' : World) : Prop :=
  ∃ ao n cap, e = .returned (.slice ao n cap) ∧ Hid (n = xs.length) ∧ w'.ownsRow w.heap.size E 1 (.slice ao n cap) n (xs.map bv) ∧ Below w.heap.size w w'

set_option maxHeartbeats 400000 in
set_option maxRecDepth 100000 in
theorem Cloneb_any (ao : Option Addr) (n c : Nat) (b : List UInt8) (w : World) (hr : Reads w ao n c (b.map bv)) (hn : n ≤ 140737488355328) :
    Calls Try.prog 18 #[.slice ao n c] w (FreshB w 5 b) := by
  have HL : Hid (n = b.length) := by have := hr.1; unfold Hid; simpa using this.symm
  have hq := fun (w : World) => Lib.run_eql_slice_nil (P := Try.prog) w 27 5 ao n c 0 0 Try.underlying27
  cases ao with
  | none =>
    have hc := hr.2.2.2.1 rfl
    have hb : b = [] := by have := hr.2.2.2.2.1 rfl; simpa using this
    have hn0 : n = 0 := by have := hr.2.1; omega
    subst hc hb hn0
    clear hr
    go_enter Try.func18, Try.ntmps18
    go_wp2
    go_ret
    exact ⟨_, _, _, rfl, HL, own_nil _ _ _, Below.refl _ _⟩
  | some a =>
    have hq' : (some a).isNone = false := rfl
    go_enter Try.func18, Try.ntmps18
    go_wp2_with (at_builtin; refine wpL_cp Try.sU8 (own_empty w _) (hr.below (Below.alloc (Below.refl _ _) (Nat.le_refl _) _)) (bv_one _) (by simp) (by omega) (by omega) rfl rfl rfl rfl (fun ao' cap' w' hown' hbel' => ?_))
    go_ret
    exact ⟨_, _, _, rfl, HL, hown', (Below.alloc (Below.refl _ _) (Nat.le_refl _) _).trans hbel'⟩

/-- The digits of a number, at most n. -/
def cutL (b : List UInt8) (n : Nat) : List UInt8 := b.take n

/-- Bytes as a string. -/
def strB (b : List UInt8) : ByteArray := ⟨b.toArray⟩
theorem strB_inj {a b : List UInt8} (h : strB a = strB b) : a = b := by
  have : a.toArray = b.toArray := congrArg ByteArray.data h
  simpa using this

theorem Reads.convert {P : Program} {w : World} {ao : Option Addr} {n c : Nat} {b : List UInt8} (h : Reads w ao n c (b.map bv)) (src e dst : TypeId)
    (hs : P.underlying src = some (.slice e)) (he : P.underlying e = some (.int .u8)) (hd : P.underlying dst = some .string) :
    (convert src dst (.slice ao n c)).run P w = .ok (.string (strB b)) w := by
  have hstr : strOfNums (b.map fun x => (x.toNat : Int)) = strB b := by
    unfold strOfNums strB
    congr 1
    simp [Function.comp_def]
  have hl : b.length = n := by simpa using h.1
  cases ao with
  | none =>
    have : b = [] := by simpa using h.2.2.2.2.1 rfl
    subst this
    rw [run_convert_bytes_nil (P := P) w src e hs he n c dst hd]; rfl
  | some a =>
    have hbm : b.map bv = (b.map fun x => (x.toNat : Int)).map (Value.int .u8) := by simp [Function.comp_def]
    have hld : (loadCells a n).run P w = .ok ((b.map fun x => (x.toNat : Int)).map (Value.int .u8)).toArray w := by
      have := run_loadCells_list (P := P) w a (b.map bv) (h.2.2.2.2.2 a rfl)
      rw [hbm] at this
      simpa [hl] using this
    rw [run_convert_bytes_string w src dst e _ n c hs he hd, run_bytesToString w a n c _ hld, foldl_push_bytes, ← hstr]
    simp [strOfNums, ByteArray.empty, ByteArray.emptyWithCapacity]
    rfl

theorem strB_toList (b : List UInt8) : (strB b).toList = b := by
  unfold ByteArray.toList
  rw [ByteArray.toList_loop_eq (strB b) (strB b).size 0 [] (by omega) (by omega)]
  simp [strB]

set_option maxHeartbeats 400000 in
set_option maxRecDepth 100000 in
theorem Equalb_any (ao ao2 : Option Addr) (n c n2 c2 : Nat) (b b2 : List UInt8) (w : World) (hr : Reads w ao n c (b.map bv)) (hr2 : Reads w ao2 n2 c2 (b2.map bv)) :
    Calls Try.prog 21 #[.slice ao n c, .slice ao2 n2 c2] w fun e w' => e = .returned (.bool (b == b2)) ∧ w = w' := by
  have hc1 := hr.convert (P := Try.prog) 27 5 9 Try.underlying27 Try.underlying5 Try.underlying9
  have hc2 := hr2.convert (P := Try.prog) 27 5 9 Try.underlying27 Try.underlying5 Try.underlying9
  clear hr hr2
  have HE : Hid (((strB b).toList == (strB b2).toList) = (b == b2)) := by unfold Hid; rw [strB_toList, strB_toList]
  generalize strB b = s at hc1 HE
  generalize strB b2 = s2 at hc2 HE
  go_enter Try.func21, Try.ntmps21
  go_wp2
  go_ret
  exact ⟨congrArg (fun x => Ending.returned (.bool x)) HE.out, rfl⟩

end Go.Proofs.Ytcfapdamgbbklaa
