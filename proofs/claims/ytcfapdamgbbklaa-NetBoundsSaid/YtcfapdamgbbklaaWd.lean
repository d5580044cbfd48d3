/- The walks: sealed bytes are opened; digits are spoilt; the document's example. -/
import Derived.Test.YtcfapdamgbbklaaWc
import Derived.Test.YtcfapdamgbbklaaPb
namespace Go.Proofs.Ytcfapdamgbbklaa
open Go.RowKit

set_option maxHeartbeats 800000 in
set_option maxRecDepth 100000 in
theorem Openb_short (ao : Option Addr) (n c : Nat) (w : World) (hn : n < 4) :
    Calls Try.prog 22 #[.slice ao n c] w fun e w' => e = .returned (.tuple #[.slice none 0 0, .bool false]) ∧ ∃ d, w' = w.drewN d := by
  have h1 : decide ((n : Int) - 4 < 0) = true := by simp; omega
  have h2 : IntKind.i64.wrap ((n : Int) - 4) = (n : Int) - 4 := by rw [IntKind.wrap_i64]; omega
  go_enter Try.func22, Try.ntmps22
  go_wp2
  go_quiet (fail)
  go_wp2
  go_ret2
  exact ⟨rfl, _, rfl⟩

/-- A slice of bytes, its own, and a yes or no. -/
def OpenPost (w : World) (E : TypeId) (b : List UInt8) (e : Ending) (w' : World) : Prop :=
  ∃ ao n cap, e = .returned (.tuple #[.slice ao n cap, .bool (openB b)]) ∧ Hid (n = (openL b).length) ∧ w'.ownsRow w.heap.size E 1 (.slice ao n cap) n ((openL b).map bv) ∧ Below w.heap.size w w'

set_option maxHeartbeats 800000 in
set_option maxRecDepth 100000 in
theorem Openb_long (ao : Option Addr) (n c : Nat) (b : List UInt8) (w : World) (hr : Reads w ao (n + 4) c (b.map bv)) (hn : n ≤ 140737488351300) :
    Calls Try.prog 22 #[.slice ao (n + 4) c] w (OpenPost w 5 b) := by
  have hbl : b.length = n + 4 := by simpa using hr.1
  have h1 := hr.2.1
  have h2 : c ≤ 9223372036854775807 := by have h2 := hr.2.2.1; simpa only [maxLen] using h2
  have hc1 := run_cut_hi Try.sU8 ao (n + 4) c n (by omega)
  have hc2 := run_cut_lo Try.sU8 ao (n + 4) c n (by omega)
  have hr1 := hr.upto (k := n) (by omega)
  have hr2 := hr.behind (k := n) (by omega)
  rw [← List.map_take] at hr1
  rw [← List.map_drop] at hr2
  rw [show n + 4 - n = 4 from by omega] at hr2 hc2
  have HO : Hid (openB b = (le4 (crc (b.take n)) == b.drop n)) := by
    unfold Hid openB
    rw [show b.length - 4 = n from by omega]
    simp; omega
  have HT : Hid (b.length - 4 = n) := by unfold Hid; omega
  generalize cutAddr ao c n = ao2 at hr2 hc2
  generalize c - n = c2 at hr2 hc2
  have hg : decide ((n : Int) < 0) = false := by simp
  have HBT : Hid (openB b = true → openL b = b.take n) := by unfold Hid openL; intro h; rw [if_pos h, HT.out]
  have HBF : Hid (openB b = false → openL b = []) := by unfold Hid openL; intro h; rw [if_neg (by rw [h]; decide)]
  clear hr hbl HT
  generalize b.take n = b1 at *
  generalize b.drop n = b2 at *
  by_cases hq : (le4 (crc b1) == b2) = true
  · have HQ : Hid (openB b = true) := by unfold Hid; rw [HO.out, hq]
    go_enter Try.func22, Try.ntmps22
    go_wp2
    go_region_held3 (fun _ => True) (trivial)
      (first
        | (go_at_call 28; (refine (ofb_any ao n c b1 _ (hr1.below (Below.refl _ _).drew)).mono ?_); rintro e w1 ⟨ao3, n3, cap3, rfl, hn3, hown, hbel⟩; obtain rfl : n3 = 4 := hn3)
        | (go_at_call 21; (refine (Equalb_any _ _ 4 _ 4 _ _ _ _ (own_reads hown) (hr2.below (below_drew hbel))).mono ?_); rintro e w2 ⟨rfl, rfl⟩))
    have hb := below_drew hbel
    have hsz := hb.size
    clear hown hbel hr2
    go_wp2_with (go_at_call 18; (refine (Cloneb_any ao n c b1 _ (hr1.below hb) (by omega)).mono ?_); rintro e w2 ⟨ao4, n4, cap4, rfl, hn4, hown4, hbel4⟩)
    go_ret2
    refine ⟨_, _, _, by rw [HQ.out]; rfl, ?_, ?_, hb.trans (hbel4.mono hsz)⟩
    · rw [HBT.out HQ.out]; exact hn4
    · rw [HBT.out HQ.out]; exact own_base hown4 hsz
  · have hq' : (le4 (crc b1) == b2) = false := by simpa using hq
    have HQ : Hid (openB b = false) := by unfold Hid; rw [HO.out, hq']
    clear hq
    go_enter Try.func22, Try.ntmps22
    go_wp2
    go_region_held3 (fun _ => True) (trivial)
      (first
        | (go_at_call 28; (refine (ofb_any ao n c b1 _ (hr1.below (Below.refl _ _).drew)).mono ?_); rintro e w1 ⟨ao3, n3, cap3, rfl, hn3, hown, hbel⟩; obtain rfl : n3 = 4 := hn3)
        | (go_at_call 21; (refine (Equalb_any _ _ 4 _ 4 _ _ _ _ (own_reads hown) (hr2.below (below_drew hbel))).mono ?_); rintro e w2 ⟨rfl, rfl⟩))
    have hb := below_drew hbel
    clear hown hbel hr2
    go_wp2
    go_ret2
    refine ⟨none, 0, 0, by rw [HQ.out]; rfl, ?_, ?_, hb⟩
    · rw [HBF.out HQ.out]; exact rfl
    · rw [HBF.out HQ.out]; exact own_nil _ _ _
theorem Openb_any (ao : Option Addr) (n c : Nat) (b : List UInt8) (w : World) (hr : Reads w ao n c (b.map bv)) (hn : n ≤ 140737488351300) :
    Calls Try.prog 22 #[.slice ao n c] w (OpenPost w 5 b) := by
  by_cases h : n < 4
  · have hl : b.length < 4 := by have := hr.1; simp at this; omega
    have ho : openB b = false := by unfold openB; simp; omega
    have hL : openL b = [] := by unfold openL; rw [if_neg (by rw [ho]; decide)]
    refine (Openb_short ao n c w h).mono ?_
    rintro e w' ⟨rfl, d, rfl⟩
    exact ⟨none, 0, 0, by rw [ho], by rw [hL]; exact rfl, by rw [hL]; exact own_nil _ _ _, below_of_drewN _ _ _⟩
  · obtain ⟨m, rfl⟩ : ∃ m, n = m + 4 := ⟨n - 4, by omega⟩
    exact Openb_long ao m c b w hr (by omega)
#print axioms Openb_any
end Go.Proofs.Ytcfapdamgbbklaa
