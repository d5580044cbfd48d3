/- The walk of the statement SumFinds. -/
import Derived.Test.YtgobccnphhljcaaLa
import Derived.Test.YtgobccnphhljcaaPc
namespace Go.Proofs.Ytgobccnphhljcaa
open Go.RowKit

set_option maxHeartbeats 3200000 in
set_option maxRecDepth 100000 in
theorem SumFinds_walk (ao : Option Addr) (n c : Nat) (b0 : List UInt8) (bit : Int) (mask : UInt32) (w : World) (hr0 : Reads w ao n c (b0.map bv)) (hc1 : -9223372036854775808 ≤ bit) (hc2 : bit ≤ 9223372036854775807) :
    Calls Try.prog 5 #[.slice ao n c, .int .i64 bit, .int .u32 (mask.toNat : Int)] w fun e w' => e = .returned (.bool true) ∧ Below w.heap.size w w' := by
  go_enter Try.func5, Try.ntmps5
  go_wp2_with fail
  refine (Cutb_any ao n c b0 80 w hr0 (by omega)).mono ?_
  intro e w1 hF
  obtain ⟨ab, nb, cb, rfl, HNb, hrb, hB⟩ := hF.reads
  clear hF hr0
  have HLb : Hid ((b0.take 80).length ≤ 80) := by unfold Hid; simp; omega
  generalize b0.take 80 = b at HNb hrb HLb
  have hnb : nb ≤ 80 := by have := HNb.out; have := HLb.out; omega
  go_wp2_with fail
  refine (Sealb_any ab nb cb b w1 hrb (by omega)).mono ?_
  intro e w2 hF
  obtain ⟨sa, ns, cs, rfl, HNs, hrs, hb2⟩ := hF.reads
  clear hF
  replace hrb := hrb.below hb2
  replace hB := below_go hB hb2
  have hns : ns = nb + 4 := by rw [HNs.out, sealL_length, HNb.out]
  subst hns
  have hne : ((nb : Int) + 4 != (nb : Int) + 4) = false := by simp
  have HO := Lib.hid (openB_seal b)
  have HL := Lib.hid (openL_seal b)
  generalize hsq : sealL b = s at *
  clear hsq
  go_wp2_with fail
  refine (Within_some bit _ w2 hc1 hc2 (by omega) (by omega)).mono ?_
  rintro e w3 ⟨z, rfl, hz0, hz1, _, rfl⟩
  clear hne
  go_wp2_with fail
  refine (Spoilb_any sa (nb + 4) cs s _ mask w2 hrs (by omega) (by omega) (by omega)).mono ?_
  intro e w4 hF
  obtain ⟨ta, nt, ct, rfl, HNt, hrt, hb4⟩ := hF.reads
  clear hF
  replace hrb := hrb.below hb4
  replace hrs := hrs.below hb4
  replace hB := below_go hB hb4
  have HF := Lib.hid (fun h => found (bit := z - 36) (mask := mask) HO.out h)
  have HTL := Lib.hid (spoilTo_length s (z - 36) mask 32)
  rw [show spoilTo s (z - 36) mask 32 = spoilL s (z - 36) mask from rfl] at HTL
  generalize spoilL s (z - 36) mask = t at *
  have hnt : nt = nb + 4 := by rw [HNt.out, HTL.out]; have := hrs.1; simpa using this
  subst hnt
  clear hz0 hz1
  go_wp2_with fail
  refine (Openb_any ta (nb + 4) ct t w4 hrt (by omega)).mono ?_
  intro e w5 hF
  obtain ⟨pa, np, cp, rfl, HNp, hrp, hb5⟩ := hF.reads
  clear hF
  replace hrb := hrb.below hb5
  replace hrs := hrs.below hb5
  replace hrt := hrt.below hb5
  replace hB := below_go hB hb5
  by_cases hst : s = t
  · subst hst
    rw [HO.out]
    rw [HL.out] at hrp
    clear HNp HF
    go_wp2_with fail
    refine (Sameb_any sa ta (nb + 4) cs (nb + 4) ct s s w5 hrs hrt).mono ?_
    rintro e w6 ⟨rfl, d, rfl⟩
    rw [beq_self_eq_true]
    replace hrb := hrb.below (below_of_drewN _ w5 d)
    replace hrp := hrp.below (below_of_drewN _ w5 d)
    replace hB := below_go hB (below_of_drewN _ w5 d)
    generalize w5.drewN d = w6 at *
    go_wp2_with fail
    refine (Sameb_any pa ab np cp nb cb b b w6 hrp hrb).mono ?_
    rintro e w7 ⟨rfl, d7, rfl⟩
    rw [beq_self_eq_true]
    replace hB := below_go hB (below_of_drewN _ w6 d7)
    generalize w6.drewN d7 = w7 at *
    go_wp2_with fail
    refine (wakes02_any w7).mono ?_
    rintro e w8 ⟨rfl, hb8⟩
    replace hB := below_go hB hb8
    clear hrb hrp hrs hrt
    go_wp2
    go_ret
    exact ⟨rfl, hB⟩
  · have ho : openB t = false := by
      cases h : openB t with
      | false => rfl
      | true => exact absurd (HF.out h).symm hst
    have hl : openL t = [] := by unfold openL; rw [ho]; rfl
    have hnp : np = 0 := by rw [HNp.out, hl]; rfl
    subst hnp
    rw [ho]
    have hsb : (s == t) = false := by rw [beq_eq_false_iff_ne]; exact hst
    clear HNp HF hst
    go_wp2_with fail
    refine (Sameb_any sa ta (nb + 4) cs (nb + 4) ct s t w5 hrs hrt).mono ?_
    rintro e w6 ⟨rfl, d, rfl⟩
    rw [hsb]
    replace hB := below_go hB (below_of_drewN _ w5 d)
    generalize w5.drewN d = w6 at *
    clear hrb hrp hrs hrt hsb hl ho
    have he : ((nb : Int) + 4 == (nb : Int) + 4) = true := by simp
    go_wp2_with fail
    refine (wakes02_any w6).mono ?_
    rintro e w8 ⟨rfl, hb8⟩
    replace hB := below_go hB hb8
    go_wp2
    go_ret
    exact ⟨rfl, hB⟩
#print axioms SumFinds_walk
end Go.Proofs.Ytgobccnphhljcaa
