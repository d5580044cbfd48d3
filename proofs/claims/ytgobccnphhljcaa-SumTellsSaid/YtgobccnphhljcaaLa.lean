/- The walk of the statement SumSeals. -/
import Derived.Test.YtgobccnphhljcaaWf
namespace Go.Proofs.Ytgobccnphhljcaa
open Go.RowKit

/-- A new slice of bytes, read. -/
theorem FreshB.reads {w w' : World} {E : TypeId} {xs : List UInt8} {e : Ending} (h : FreshB w E xs e w') :
    ∃ ao n cap, e = .returned (.slice ao n cap) ∧ Hid (n = xs.length) ∧ Reads w' ao n cap (xs.map bv) ∧ Below w.heap.size w w' := by
  obtain ⟨ao, n, cap, h1, h2, h3, h4⟩ := h
  exact ⟨ao, n, cap, h1, h2, own_reads h3, h4⟩
theorem OpenPost.reads {w w' : World} {E : TypeId} {b : List UInt8} {e : Ending} (h : OpenPost w E b e w') :
    ∃ ao n cap, e = .returned (.tuple #[.slice ao n cap, .bool (openB b)]) ∧ Hid (n = (openL b).length) ∧ Reads w' ao n cap ((openL b).map bv) ∧ Below w.heap.size w w' := by
  obtain ⟨ao, n, cap, h1, h2, h3, h4⟩ := h
  exact ⟨ao, n, cap, h1, h2, own_reads h3, h4⟩

set_option maxHeartbeats 3200000 in
set_option maxRecDepth 100000 in
theorem SumSeals_walk (ao : Option Addr) (n c : Nat) (b0 : List UInt8) (cut : Int) (w : World) (hr0 : Reads w ao n c (b0.map bv)) (hc1 : -9223372036854775808 ≤ cut) (hc2 : cut ≤ 9223372036854775807) :
    Calls Try.prog 3 #[.slice ao n c, .int .i64 cut] w fun e w' => e = .returned (.bool true) ∧ Below w.heap.size w w' := by
  go_enter Try.func3, Try.ntmps3
  go_wp2_with fail
  refine (Cutb_any ao n c b0 80 w hr0 (by omega)).mono ?_
  intro e w1 hF
  obtain ⟨ab, nb, cb, rfl, HNb, hrb, hb1⟩ := hF.reads
  clear hF hr0
  have HLb : Hid ((b0.take 80).length ≤ 80) := by unfold Hid; simp; omega
  generalize b0.take 80 = b at HNb hrb HLb
  have hnb : nb ≤ 80 := by have := HNb.out; have := HLb.out; omega
  go_wp2_with fail
  refine (Sealb_any ab nb cb b w1 hrb (by omega)).mono ?_
  intro e w2 hF
  obtain ⟨sa, ns, cs, rfl, HNs, hrs, hb2⟩ := hF.reads
  clear hF
  replace hrb := hrb.below hb2
  have hns : ns = nb + 4 := by rw [HNs.out, sealL_length, HNb.out]
  subst hns
  have hne : ((nb : Int) + 4 != (nb : Int) + 4) = false := by simp
  have hcs := hrs.2.1
  have hct := run_cut_hi Try.sU8 sa (nb + 4) cs nb (by omega)
  have hrt := hrs.upto (k := nb) (by omega)
  rw [← List.map_take, show nb = b.length from HNb.out, sealL_take, ← HNb.out] at hrt
  go_wp2_with fail
  refine (Sameb_any sa ab nb cs nb cb b b w2 hrt hrb).mono ?_
  rintro e w3 ⟨rfl, d, rfl⟩
  rw [beq_self_eq_true]
  have hB := below_go (below_go hb1 hb2) (below_of_drewN _ w2 d)
  replace hrb := hrb.below (below_of_drewN _ w2 d)
  replace hrs := hrs.below (below_of_drewN _ w2 d)
  clear hrt hct hb1 hb2 hne HNs
  generalize w2.drewN d = w3 at *
  generalize hsq : sealL b = s at *
  have HSB := Lib.hid hsq
  clear hsq
  go_wp2_with fail
  refine (Sealb_any sa (nb + 4) cs s w3 hrs (by omega)).mono ?_
  intro e w4 hF
  obtain ⟨ta, nt, ct, rfl, HNt, hrt, hb4⟩ := hF.reads
  clear hF
  replace hrb := hrb.below hb4
  replace hrs := hrs.below hb4
  replace hB := below_go hB hb4
  have hnt : nt ≤ 1000 := by
    have h1 := HNt.out; unfold Hid at h1; rw [sealL_length] at h1
    have h2 := hrs.1; simp at h2; omega
  go_wp2_with fail
  refine (Openb_any ta nt ct _ w4 hrt (by omega)).mono ?_
  intro e w5 hF
  obtain ⟨xa, nx, cx, rfl, HNx, hrx, hb5⟩ := hF.reads
  clear hF hrt
  rw [openB_seal]
  rw [openL_seal] at hrx HNx
  replace hrb := hrb.below hb5
  replace hrs := hrs.below hb5
  replace hB := below_go hB hb5
  have hnx : nx ≤ 1000 := by have h1 := HNx.out; have h2 := hrs.1; simp at h2; omega
  go_wp2_with fail
  refine (Openb_any xa nx cx _ w5 hrx (by omega)).mono ?_
  intro e w6 hF
  obtain ⟨ya, ny, cy, rfl, HNy, hry, hb6⟩ := hF.reads
  clear hF
  rw [← HSB.out, openL_seal] at hry HNy
  rw [show openB s = true from by rw [← HSB.out]; exact openB_seal b]
  replace hrb := hrb.below hb6
  replace hrs := hrs.below hb6
  replace hrx := hrx.below hb6
  replace hB := below_go hB hb6
  go_wp2_with fail
  refine (Within_any cut 4 w6 hc1 hc2 (by omega) (by omega)).mono ?_
  rintro e w7 ⟨rfl, rfl⟩
  obtain ⟨k, hk, hk4⟩ : ∃ k : Nat, within cut 4 = (k : Int) ∧ k < 4 := by
    have := within_range cut 4 (by omega)
    exact ⟨(within cut 4).toNat, by omega, by omega⟩
  rw [hk]
  clear hk
  have hct := run_cut_hi Try.sU8 sa (nb + 4) cs k (by omega)
  have hrk := hrs.upto (k := k) (by omega)
  rw [← List.map_take] at hrk
  go_wp2_with fail
  refine (Openb_any sa k cs _ w6 hrk (by omega)).mono ?_
  intro e w7 hF
  obtain ⟨za, nz, cz, rfl, _, _, hb7⟩ := hF.reads
  clear hF
  rw [openB_short (show (s.take k).length < 4 by simp; omega)]
  clear hct hrk
  replace hrb := hrb.below hb7
  replace hrs := hrs.below hb7
  replace hrx := hrx.below hb7
  replace hry := hry.below hb7
  replace hB := below_go hB hb7
  go_wp2_with fail
  have hal := Below.alloc (Below.refl w7.heap.size w7) (Nat.le_refl _) (.cells #[.int .u8 0, .int .u8 0, .int .u8 0, .int .u8 0] 5)
  have hr0 := reads_new w7 (([0, 0, 0, 0] : List UInt8).map bv).toArray 5 4 rfl (by decide)
  refine (Openb_any _ 4 4 [0, 0, 0, 0] _ hr0 (by omega)).mono ?_
  intro e w8 hF
  obtain ⟨oa, no, co, rfl, _, _, hb8⟩ := hF.reads
  clear hF hr0
  rw [openB_zero]
  have hb8' := below_go hal hb8
  clear hal hb8
  replace hrb := hrb.below hb8'
  replace hrs := hrs.below hb8'
  replace hrx := hrx.below hb8'
  replace hry := hry.below hb8'
  replace hB := below_go hB hb8'
  go_wp2_with fail
  refine (Sameb_any xa sa nx cx (nb + 4) cs s s w8 hrx hrs).mono ?_
  rintro e w9 ⟨rfl, d9, rfl⟩
  rw [beq_self_eq_true]
  replace hrb := hrb.below (below_of_drewN _ w8 d9)
  replace hry := hry.below (below_of_drewN _ w8 d9)
  replace hB := below_go hB (below_of_drewN _ w8 d9)
  generalize w8.drewN d9 = w9 at *
  go_wp2_with fail
  refine (Sameb_any ya ab ny cy nb cb b b w9 hry hrb).mono ?_
  rintro e w10 ⟨rfl, d10, rfl⟩
  rw [beq_self_eq_true]
  replace hB := below_go hB (below_of_drewN _ w9 d10)
  generalize w9.drewN d10 = w10 at *
  go_wp2_with fail
  refine (wakes02_any w10).mono ?_
  rintro e w11 ⟨rfl, hb11⟩
  replace hB := below_go hB hb11
  clear hrb hry hrs hrx
  go_wp2
  go_ret
  exact ⟨rfl, hB⟩
#print axioms SumSeals_walk
end Go.Proofs.Ytgobccnphhljcaa
