/- The walk of the statement SumTells. -/
import Derived.Test.YtgobccnphhljcaaRc
import Derived.Test.YtgobccnphhljcaaLa
namespace Go.Proofs.Ytgobccnphhljcaa
open Go.RowKit

set_option maxHeartbeats 400000 in
set_option maxRecDepth 100000 in
theorem Of_short (ta ba : Option Addr) (m ct nb cb : Nat) (w : World) (hm : m ≠ 256) :
    Calls Try.prog 24 #[.slice ta m ct, .slice ba nb cb] w fun e w' => e = .returned (.int .u32 0) ∧ w = w' := by
  have hne : ((m : Int) != 256) = true := by rw [bne_iff_ne]; omega
  go_enter Try.func24, Try.ntmps24
  go_wp2
  go_ret
  exact ⟨rfl, rfl⟩

set_option maxHeartbeats 3200000 in
set_option maxRecDepth 100000 in
theorem SumTells_walk (ao : Option Addr) (n c : Nat) (b0 : List UInt8) (bit : Int) (mask : UInt32) (cut how : Int) (w : World) (hr0 : Reads w ao n c (b0.map bv)) (hc1 : -9223372036854775808 ≤ bit) (hc2 : bit ≤ 9223372036854775807) (hd1 : -9223372036854775808 ≤ cut) (hd2 : cut ≤ 9223372036854775807) (_h1 : -9223372036854775808 ≤ how) (_h2 : how ≤ 9223372036854775807) :
    Calls Try.prog 4 #[.slice ao n c, .int .i64 bit, .int .u32 (mask.toNat : Int), .int .i64 cut, .int .i64 how] w fun e w' => e = .returned (.bool true) ∧ Below w.heap.size w w' := by
  go_enter Try.func4, Try.ntmps4
  go_wp2_with fail
  refine (Cutb_any ao n c b0 90 w hr0 (by omega)).mono ?_
  intro e w1 hF
  obtain ⟨ab, nb, cb, rfl, HNb, hrb, hB⟩ := hF.reads
  clear hF hr0
  have HLb : Hid ((b0.take 90).length ≤ 90) := by unfold Hid; simp; omega
  generalize b0.take 90 = b at HNb hrb HLb
  have hnb : nb ≤ 90 := by have := HNb.out; have := HLb.out; omega
  go_wp2_with fail
  refine (Lend_any ab nb cb b w1 hrb (by omega)).mono ?_
  rintro e w2 ⟨la, rfl, hl, hb2⟩
  replace hrb := hrb.below hb2
  replace hB := below_go hB hb2
  go_wp2_with fail
  refine (Table_any w2).mono ?_
  rintro e w3 ⟨ta, ct, rfl, hown, hb3⟩
  have hrt := own_reads hown
  clear hown
  replace hrb := hrb.below hb3
  replace hl := hl.below hb3
  replace hB := below_go hB hb3
  have hct := hrt.2.1
  have hc255 := run_cut_hi Try.sU32 ta 256 ct 255 (by omega)
  by_cases hm : how.tmod 3 = 0
  case' pos =>
    have hmb : (how.tmod 3 != 0) = false := by rw [hm]; rfl
    go_wp2_with fail
    have hbt1 := hc1
    have hbt2 := hc2
    clear hmb hm hc1 hc2
    generalize bit = bt at *
  case' neg =>
    have hmb : (how.tmod 3 != 0) = true := by rw [bne_iff_ne]; exact hm
    go_wp2_with fail
    refine (Within_some bit 900 w3 hc1 hc2 (by omega) (by omega)).mono ?_
    rintro e w4 ⟨z, rfl, hz0, hz1, _, rfl⟩
    go_wp2_with fail
    have hbt1 : -9223372036854775808 ≤ z - 40 := by omega
    have hbt2 : z - 40 ≤ 9223372036854775807 := by omega
    clear hmb hm hc1 hc2 hz0 hz1
    generalize z - 40 = bt at *
  all_goals
    refine (Sealb_any la nb (nb + 3) b w3 hl.reads (by omega)).mono ?_
    intro e w4 hF
    obtain ⟨sa, ns, cs, rfl, HNs, hrs, hb4⟩ := hF.reads
    clear hF
    replace hrb := hrb.below hb4
    replace hl := hl.below hb4
    replace hrt := hrt.below hb4
    replace hB := below_go hB hb4
    go_wp2_with fail
    refine (Spoilb_any la nb (nb + 3) b bt mask w4 hl.reads (by omega) hbt1 hbt2).mono ?_
    intro e w5 hF
    obtain ⟨xa, nx, cx, rfl, HNx, hrx, hb5⟩ := hF.reads
    clear hF
    replace hrb := hrb.below hb5
    replace hl := hl.below hb5
    replace hrt := hrt.below hb5
    replace hrs := hrs.below hb5
    replace hB := below_go hB hb5
    go_wp2_with fail
    refine (Of_any ta la ct (nb + 3) b nb w5 hrt hl.reads).mono ?_
    rintro e w6 ⟨rfl, rfl⟩
    go_wp2_with fail
    refine (RSum_any ab nb cb b w5 hrb).mono ?_
    rintro e w6 ⟨rfl, rfl⟩
    have hne : (((crc b).toNat : Int) != ((crc b).toNat : Int)) = false := by simp
    generalize crc b = cr at *
    go_wp2_with fail
    refine (RSeal_any ab nb cb b w5 hrb (by omega)).mono ?_
    intro e w6 hF
    obtain ⟨s2, ns2, cs2, rfl, HNs2, hrs2, hb6⟩ := hF.reads
    clear hF
    replace hrb := hrb.below hb6
    replace hl := hl.below hb6
    replace hrt := hrt.below hb6
    replace hrs := hrs.below hb6
    replace hrx := hrx.below hb6
    replace hB := below_go hB hb6
    go_wp2_with fail
    refine (Sameb_any sa s2 ns cs ns2 cs2 (sealL b) (sealL b) w6 hrs hrs2).mono ?_
    rintro e w7 ⟨rfl, d, rfl⟩
    rw [beq_self_eq_true]
    clear hrs2 hrs HNs HNs2
    have hbd := below_of_drewN w6.heap.size w6 d
    replace hrb := hrb.below hbd
    replace hl := hl.below hbd
    replace hrt := hrt.below hbd
    replace hrx := hrx.below hbd
    replace hB := below_go hB hbd
    clear hbd
    generalize w6.drewN d = w7 at *
    go_wp2_with fail
    refine (RSpoil_any ab nb cb b bt mask w7 hrb (by omega) hbt1 hbt2).mono ?_
    intro e w8 hF
    obtain ⟨x2, nx2, cx2, rfl, HNx2, hrx2, hb8⟩ := hF.reads
    clear hF
    replace hrb := hrb.below hb8
    replace hl := hl.below hb8
    replace hrt := hrt.below hb8
    replace hrx := hrx.below hb8
    replace hB := below_go hB hb8
    go_wp2_with fail
    refine (Sameb_any xa x2 nx cx nx2 cx2 _ _ w8 hrx hrx2).mono ?_
    rintro e w9 ⟨rfl, d9, rfl⟩
    rw [beq_self_eq_true]
    clear hrx2 HNx2
    have hbd := below_of_drewN w8.heap.size w8 d9
    replace hrb := hrb.below hbd
    replace hl := hl.below hbd
    replace hrt := hrt.below hbd
    replace hrx := hrx.below hbd
    replace hB := below_go hB hbd
    clear hbd
    generalize w8.drewN d9 = w9 at *
    go_wp2_with fail
    refine (Intact_any la ab nb nb cb b w9 hl hrb (by omega)).mono ?_
    rintro e w10 ⟨rfl, d10, rfl⟩
    have hbd := below_of_drewN w9.heap.size w9 d10
    replace hrb := hrb.below hbd
    replace hrt := hrt.below hbd
    replace hrx := hrx.below hbd
    replace hB := below_go hB hbd
    clear hbd hl
    generalize w9.drewN d10 = w10 at *
    go_wp2_with fail
    refine (Of_short ta ab 255 ct nb cb w10 (by omega)).mono ?_
    rintro e w11 ⟨rfl, rfl⟩
    go_wp2_with fail
    refine (Of_short none none 0 0 0 0 w10 (by omega)).mono ?_
    rintro e w11 ⟨rfl, rfl⟩
    clear hrt hc255 hct hne
    go_wp2_with fail
    refine (RSeal_any ab nb cb b w10 hrb (by omega)).mono ?_
    intro e w11 hF
    obtain ⟨ca, nc, cc, rfl, HNc, hrc, hb11⟩ := hF.reads
    clear hF
    replace hrb := hrb.below hb11
    replace hrx := hrx.below hb11
    replace hB := below_go hB hb11
    have hnc : nc = nb + 4 := by rw [HNc.out, sealL_length, HNb.out]
    subst hnc
    have hnx : nx = nb := by rw [HNx.out, spoilL, spoilTo_length, HNb.out]
    subst hnx
    generalize sealL b = s at *
    generalize spoilL b bt mask = x at *
    have hw1 : IntKind.i64.wrap ((nx : Int) + 4 + 1) = (nx : Int) + 4 + 1 := by rw [IntKind.wrap_i64]; omega
    have hcc := hrc.2.1
    go_wp2_with fail
    go_region_held3 (fun _ => True) (trivial)
      (first
        | (go_at_call 19; (refine (Within_some cut _ _ hd1 hd2 (by omega) (by omega)).mono ?_); rintro e w8 ⟨z, rfl, hz0, hz1, _, rfl⟩; obtain ⟨kz, rfl⟩ : ∃ kz : Nat, z = (kz : Int) := ⟨z.toNat, by omega⟩; have hcz := run_cut_hi Try.sU8 ca (nx + 4) cc kz (by omega))
        | (go_at_call 27; (refine (RSpoil_any ca (nx + 4) cc s bt mask _ (hrc.below (Below.refl _ _).drew) (by omega) hbt1 hbt2).mono ?_); rintro e w12 ⟨ya, ny, cy, rfl, HNy, howny, hbely⟩))
    have hby := below_drew hbely
    have hry := own_reads howny
    have hal := Below.alloc (Below.refl w12.heap.size w12) (Nat.le_refl _) (.cells #[.slice ab nx cb, .slice xa nx cx, .slice ca kz cc, .slice ya ny cy] 22)
    have hrk := hrc.upto (k := kz) (by omega)
    rw [← List.map_take] at hrk
    have hny : ny ≤ 1000 := by
      have h1 := HNy.out; have h2 := hrc.1
      unfold Hid at h1; rw [spoilL, spoilTo_length] at h1; simp at h2; omega
    replace hrb := (hrb.below hby).below hal
    replace hrx := (hrx.below hby).below hal
    replace hrk := (hrk.below hby).below hal
    replace hry := hry.below hal
    replace hB := below_go (below_go hB hby) hal
    have hrl := reads_new w12 #[.slice ab nx cb, .slice xa nx cx, .slice ca kz cc, .slice ya ny cy] 22 4 rfl (by decide)
    clear hcz hw1 hcc hbely howny hby hal HNy hrc hd1 hd2 hbt1 hbt2
    generalize w12.alloc (.cells #[.slice ab nx cb, .slice xa nx cx, .slice ca kz cc, .slice ya ny cy] 22) = W at *
    generalize w12.heap.size = g at *
    obtain ⟨l, hl⟩ : ∃ l : List Piece, l = [⟨ab, nx, cb, b⟩, ⟨xa, nx, cx, x⟩, ⟨ca, kz, cc, s.take kz⟩, ⟨ya, ny, cy, spoilL s bt mask⟩] := ⟨_, rfl⟩
    have hrl' : Reads W (some ⟨g, 0, none⟩) 4 4 (l.map Piece.val) := by rw [hl]; exact hrl
    have hlp : ∀ p ∈ l, p.ok W := by
      rw [hl]; intro p hp
      simp only [List.mem_cons, List.not_mem_nil, or_false] at hp
      rcases hp with rfl | rfl | rfl | rfl
      · exact hrb
      · exact hrx
      · exact hrk
      · exact hry
    have hln : ∀ p ∈ l, p.n ≤ 1000 := by
      rw [hl]; intro p hp
      simp only [List.mem_cons, List.not_mem_nil, or_false] at hp
      rcases hp with rfl | rfl | rfl | rfl
      · show nx ≤ 1000; omega
      · show nx ≤ 1000; omega
      · show kz ≤ 1000; omega
      · exact hny
    have HLN := Lib.hid hln
    clear hl hrl hrb hrx hrk hry hln hny
    go_wp2_with fail
    go_loopw [17, 18, 19, 20, 21, 100] (fun _ _ _ _ _ i wr => ∃ k : Nat, k ≤ 4 ∧ i = .int .i64 k ∧ Below W.heap.size W wr) (fun _ _ _ _ _ i _ => 4 - (intOf i).toNat)
    case atStart => exact ⟨0, by omega, rfl, Below.refl _ _⟩
    case round =>
      obtain ⟨k, hk, rfl, hbel⟩ := hrel
      by_cases hlt : k < 4
      · obtain ⟨a, ak, nk, ck, bk, ha, hc, hrk, HP⟩ := piece_at (hrl'.below hbel) (fun p hp => Reads.below (hlp p hp) hbel) hlt
        obtain rfl := Option.some.inj ha
        rw [add0] at hc
        have hnk : nk ≤ 1000 := HLN.out _ (List.mem_of_getElem? HP.out)
        clear ha HP hlp hrl' HLN
        go_wp2_with fail
        refine (Openb_any ak nk ck bk wr hrk (by omega)).mono ?_
        intro e v1 hF
        obtain ⟨pa, np, cp, rfl, HNp, hrp, hb1⟩ := hF.reads
        clear hF
        replace hrk := hrk.below hb1
        replace hbel := below_go hbel hb1
        go_wp2_with fail
        refine (ROpen_any ak nk ck bk v1 hrk (by omega)).mono ?_
        intro e v2 hF
        obtain ⟨qa, nq, cq, rfl, HNq, hrq, hb2⟩ := hF.reads
        clear hF
        replace hrp := hrp.below hb2
        replace hbel := below_go hbel hb2
        have hne : (openB bk != openB bk) = false := by simp
        generalize openB bk = ob at *
        go_wp2_with fail
        refine (Sameb_any pa qa np cp nq cq _ _ v2 hrp hrq).mono ?_
        rintro e v3 ⟨rfl, d3, rfl⟩
        rw [beq_self_eq_true]
        replace hbel := below_go hbel (below_of_drewN _ v2 d3)
        clear hrp hrq hrk hne
        go_wp2
        go_roundw
        case rel => exact ⟨k + 1, by omega, by go_num, hbel⟩
        case measure => simp [intOf]; omega
      · obtain rfl : k = 4 := by omega
        clear hlp hrl' HLN
        go_wp2_with fail
        refine (wakes02_any wr).mono ?_
        rintro e v1 ⟨rfl, hb1⟩
        replace hB := below_go (below_go hB hbel) hb1
        go_wp2
        go_ret
        exact ⟨rfl, hB⟩
#print axioms SumTells_walk
end Go.Proofs.Ytgobccnphhljcaa
