/- The walks: the document's own spoilt digits; bytes that are lent, and looked at again. -/
import Derived.Test.YtgobccnphhljcaaRb
import Derived.Laws.CopyOwn
namespace Go.Proofs.Ytgobccnphhljcaa
open Go.RowKit

theorem mask_bit1 (mask : UInt32) (k : Nat) : (bits .and .u32 ((mask.toNat : Int) / 2 ^ k) 1 == 1) = mask.toNat.testBit k := by
  have hlt := mask.toNat_lt
  have h0 : mask.toNat / 2 ^ k < 4294967296 := Nat.lt_of_le_of_lt (Nat.div_le_self _ _) hlt
  have h1 : (mask.toNat : Int) / 2 ^ k = ((UInt32.ofNat (mask.toNat / 2 ^ k)).toNat : Int) := by
    rw [UInt32.toNat_ofNat', Nat.mod_eq_of_lt h0]; simp
  have h2 := (bits32 (UInt32.ofNat (mask.toNat / 2 ^ k)) 1).2.1
  rw [show ((1 : UInt32).toNat : Int) = 1 from rfl] at h2
  rw [h1, h2, UInt32.toNat_and, UInt32.toNat_ofNat', Nat.mod_eq_of_lt h0, show (1 : UInt32).toNat = 1 from rfl, Nat.and_one_is_mod, Nat.testBit_eq_decide_div_mod_eq]
  rcases Nat.mod_two_eq_zero_or_one (mask.toNat / 2 ^ k) with h | h <;> simp [h]
theorem spoilTo_out {b : List UInt8} {bit : Int} {mask : UInt32} (h : bit < -32 ∨ bit > 8 * (b.length : Int)) : ∀ n, n ≤ 32 → spoilTo b bit mask n = b := by
  intro n hn
  induction n with
  | zero => rfl
  | succ n ih => rw [spoilTo, if_neg (by omega), ih (by omega)]

set_option maxHeartbeats 1600000 in
set_option maxRecDepth 100000 in
theorem RSpoil_any (ao : Option Addr) (n c : Nat) (b : List UInt8) (bit : Int) (mask : UInt32) (w : World) (hr : Reads w ao n c (b.map bv)) (hn : n ≤ 140737488351300) (hb1 : -9223372036854775808 ≤ bit) (hb2 : bit ≤ 9223372036854775807) :
    Calls Try.prog 27 #[.slice ao n c, .int .i64 bit, .int .u32 (mask.toNat : Int)] w (FreshB w 5 (spoilL b bit mask)) := by
  have HBL : Hid (b.length = n) := by have := hr.1; unfold Hid; simpa using this
  by_cases hout : bit < -32 ∨ bit > 8 * (n : Int)
  · have HS : Hid (spoilL b bit mask = b) := spoilTo_out (by rw [HBL.out]; exact hout) 32 (Nat.le_refl _)
    go_enter Try.func27, Try.ntmps27
    rcases hout with hout | hout
    all_goals
      go_wp2_with (at_builtin; refine wpL_cp Try.sU8 (own_nil w w.heap.size _) hr (bv_one _) (Nat.le_refl _) (by omega) (by omega) rfl rfl rfl rfl (fun ao' cap' w' hown' hbel' => ?_))
      go_ret
      refine ⟨_, _, _, rfl, by unfold Hid; rw [HS.out, HBL.out], by rw [HS.out]; exact hown', hbel'⟩
  · have hlo : ¬ bit < -32 := fun h => hout (.inl h)
    have hhi : ¬ bit > 8 * (n : Int) := fun h => hout (.inr h)
    clear hout
    go_enter Try.func27, Try.ntmps27
    go_wp2_with (at_builtin; refine wpL_cp Try.sU8 (own_nil w w.heap.size _) hr (bv_one _) (Nat.le_refl _) (by omega) (by omega) rfl rfl rfl rfl (fun ao1 cap1 w1 hown1 hbel1 => ?_))
    clear hr
    go_loopw [8, 9] (fun i _ wr => ∃ k : Nat, k ≤ 32 ∧ i = .int .i64 k ∧ wr.ownsRow w.heap.size 5 1 (.slice ao1 n cap1) n ((spoilTo b bit mask k).map bv) ∧ Below w.heap.size w wr) (fun i _ _ => 32 - (intOf i).toNat)
    case atStart => exact ⟨0, by omega, rfl, hown1, hbel1⟩
    case round =>
      obtain ⟨k, hk, rfl, hown, hbel⟩ := hrel
      clear hown1 hbel1
      by_cases hlt : k < 32
      · by_cases hm : mask.toNat.testBit k = true
        · have hmb : (bits .and .u32 ((mask.toNat : Int) / 2 ^ k) 1 == 1) = true := by rw [mask_bit1, hm]
          by_cases hneg : bit + k < 0
          · have HS : Hid (spoilTo b bit mask (k + 1) = spoilTo b bit mask k) := by
              unfold Hid; rw [spoilTo, if_neg (by omega)]
            go_wp2
            go_roundw
            case rel => exact ⟨k + 1, by omega, by go_num, by rw [HS.out]; exact hown, hbel⟩
            case measure => simp [intOf]; omega
          · by_cases hbig : 8 * (n : Int) ≤ bit + k
            · have HS : Hid (spoilTo b bit mask (k + 1) = spoilTo b bit mask k) := by
                unfold Hid; rw [spoilTo, if_neg (by rw [HBL.out]; omega)]
              go_wp2
              go_roundw
              case rel => exact ⟨k + 1, by omega, by go_num, by rw [HS.out]; exact hown, hbel⟩
              case measure => simp [intOf]; omega
            · obtain ⟨t, ht⟩ : ∃ t : Nat, bit + k = t := ⟨(bit + k).toNat, by omega⟩
              obtain ⟨g, rfl, hg⟩ := own_addr hown (by omega)
              have hq : t / 8 < n := by omega
              obtain ⟨x, hx, HX⟩ : ∃ x, wr.cell? ⟨g, t / 8, none⟩ = some (.int .u8 (x.toNat : Int)) ∧ Hid ((spoilTo b bit mask k).getD (t / 8) 0 = x) := by
                refine ⟨_, ?_, rfl⟩
                rw [hown.cellAt (t / 8) (by omega)]
                have : t / 8 < (spoilTo b bit mask k).length := by rw [spoilTo_length, HBL.out]; exact hq
                simp [this, List.getD]
              have hf := hown.frozenAt (t / 8)
              have hw1 : IntKind.i64.wrap ((t : Int) / 8) = ((t / 8 : Nat) : Int) := by rw [IntKind.wrap_i64]; omega
              have hw2 : (t : Int).tmod 8 = ((t % 8 : Nat) : Int) := by rw [Int.tmod_eq_emod_of_nonneg (by omega)]; omega
              have hr8 : t % 8 < 8 := by omega
              have HQ : Hid (t = 8 * (t / 8) + t % 8) := by unfold Hid; omega
              have hq0 : (0 : Int) ≤ ((t / 8 : Nat) : Int) := by omega
              have hq1 : ((t / 8 : Nat) : Int) < (n : Int) := by omega
              have hr0 : (0 : Int) ≤ ((t % 8 : Nat) : Int) := by omega
              generalize t / 8 = q at *
              generalize t % 8 = r at *
              go_wp2
              go_roundw
              case rel =>
                have hs := hown.stored q (.int .u8 (bits .xor .u8 (x.toNat : Int) ((2 : Int) ^ r % (256 : Int))))
                refine ⟨k + 1, by omega, by go_num, ?_, ?_⟩
                · rw [spoil_step HBL.out ht hm HQ.out hr8 hq HX.out]
                  exact hs.1
                · exact hbel.setCell hg _
              case measure => simp [intOf]; omega
        · have hmb : (bits .and .u32 ((mask.toNat : Int) / 2 ^ k) 1 == 1) = false := by rw [mask_bit1]; simpa using hm
          have HS : Hid (spoilTo b bit mask (k + 1) = spoilTo b bit mask k) := by
            unfold Hid; rw [spoilTo, if_neg (fun h => hm h.2.2)]
          go_wp2
          go_roundw
          case rel => exact ⟨k + 1, by omega, by go_num, by rw [HS.out]; exact hown, hbel⟩
          case measure => simp [intOf]; omega
      · obtain rfl : k = 32 := by omega
        go_wp2
        go_ret
        exact ⟨_, _, _, rfl, by unfold Hid; rw [spoilL, spoilTo_length, HBL.out], hown, hbel⟩
#print axioms RSpoil_any

/-- What is lent: the bytes, three more behind them. -/
def lentL (b : List UInt8) : List UInt8 := b ++ [85, 85, 85]
/-- A slice of n bytes, with three behind them in the same block. -/
def Lent (w : World) (ao : Option Addr) (n : Nat) (b : List UInt8) : Prop := Reads w ao (n + 3) (n + 3) ((lentL b).map bv)
theorem Lent.below {w w' : World} {ao : Option Addr} {n : Nat} {b : List UInt8} (h : Lent w ao n b) (hb : Below w.heap.size w w') : Lent w' ao n b := Reads.below h hb
theorem Lent.len {w : World} {ao : Option Addr} {n : Nat} {b : List UInt8} (h : Lent w ao n b) : b.length = n := by
  have := h.1; simp [lentL] at this; omega
theorem Lent.reads {w : World} {ao : Option Addr} {n : Nat} {b : List UInt8} (h : Lent w ao n b) : Reads w ao n (n + 3) (b.map bv) := by
  have h2 := h.upto (k := n) (by omega)
  have h3 : ((lentL b).map bv).take n = b.map bv := by
    rw [← List.map_take, lentL, List.take_append_of_le_length (by rw [h.len]; omega), List.take_of_length_le (by rw [h.len]; omega)]
  rw [h3] at h2
  exact h2

set_option maxHeartbeats 1600000 in
set_option maxRecDepth 100000 in
theorem Intact_any (ao ao2 : Option Addr) (n n2 c2 : Nat) (b : List UInt8) (w : World) (hl : Lent w ao n b) (hr2 : Reads w ao2 n2 c2 (b.map bv)) (hn : n ≤ 140737488351300) :
    Calls Try.prog 28 #[.slice ao n (n + 3), .slice ao2 n2 c2] w fun e w' => e = .returned (.bool true) ∧ ∃ d, w' = w.drewN d := by
  have hbl := hl.len
  obtain rfl : n2 = n := by have := hr2.1; simp at this; omega
  have hne : ((n2 : Int) != (n2 : Int)) = false := by simp
  have hne3 : ((n2 : Int) + 3 != (n2 : Int) + 3) = false := by simp
  have hct := run_cut_hi Try.sU8 ao n2 (n2 + 3) (n2 + 3) (by omega)
  have HBL := Lib.hid hbl
  have hlr : Reads w ao (n2 + 3) (n2 + 3) ((lentL b).map bv) := hl
  have HLT := Lib.hid (show ∀ k, k < n2 → (lentL b)[k]? = b[k]? from fun k hk => by unfold lentL; rw [List.getElem?_append_left (by omega)])
  have HGE := Lib.hid (show ∀ k x, n2 ≤ k → (lentL b)[k]? = some x → x = 85 from fun k x hk h => by
    unfold lentL at h
    rw [List.getElem?_append_right (by omega)] at h
    have hin : x ∈ [(85 : UInt8), 85, 85] := List.mem_of_getElem? h
    simpa using hin)
  clear hl hbl
  go_enter Try.func28, Try.ntmps28
  go_wp2
  go_loopw [6, 27] (fun _ i wr => ∃ k : Nat, k ≤ n2 + 3 ∧ i = .int .i64 k ∧ ∃ d, wr = w.drewN d) (fun _ i _ => n2 + 3 - (intOf i).toNat)
  case atStart => exact ⟨0, by omega, rfl, 0, rfl⟩
  case round =>
    obtain ⟨k, hk, rfl, d, rfl⟩ := hrel
    by_cases hlt : k < n2 + 3
    · obtain ⟨a, x, rfl, hc, HX⟩ := hlr.at_b hlt
      by_cases hk2 : k < n2
      · obtain ⟨a2, x2, rfl, hc2, HX2⟩ := hr2.at_b hk2
        obtain rfl : x = x2 := by
          have h1 := HX.out; have h2 := HX2.out; have h3 := HLT.out k hk2
          unfold Hid at h1 h2
          rw [h3, h2] at h1
          exact (Option.some.inj h1).symm
        clear HX HX2 HLT HGE hlr hr2
        have hd : ((x.toNat : Int) != (x.toNat : Int)) = false := by simp
        have hg1 : decide ((k : Int) < (n2 : Int)) = true := by simp; omega
        have hg2 : decide (n2 ≤ k) = false := by simp; omega
        go_wp2
        go_quiet (fail)
        go_wp2
        go_roundw
        case rel => exact ⟨k + 1, by omega, by go_num, _, rfl⟩
        case measure => simp [intOf]; omega
      · obtain rfl : x = 85 := HGE.out k x (by omega) HX.out
        clear HX HLT HGE hlr hr2
        have hg1 : decide ((k : Int) < (n2 : Int)) = false := by simp; omega
        have hg2 : decide (n2 ≤ k) = true := by simp; omega
        go_wp2
        go_quiet (fail)
        go_wp2
        go_roundw
        case rel => exact ⟨k + 1, by omega, by go_num, _, rfl⟩
        case measure => simp [intOf]; omega
    · obtain rfl : k = n2 + 3 := by omega
      clear HLT HGE hlr hr2
      go_wp2
      go_ret
      exact ⟨rfl, _, rfl⟩
#print axioms Intact_any

theorem heap_new (w : World) (o : Obj) : (w.alloc o).heap[w.heap.size]? = some o := by
  show (w.heap.push o)[w.heap.size]? = _
  simp
/-- The row while it is filled. -/
def fillL (b : List UInt8) (j : Nat) : List UInt8 := b ++ (List.replicate j 85 ++ List.replicate (3 - j) 0)
theorem fillL_step (b : List UInt8) (n j : Nat) (hb : b.length = n) (hj : j < 3) : (fillL b (j + 1)).map bv = ((fillL b j).map bv).set (n + j) (.int .u8 85) := by
  subst hb
  unfold fillL
  rw [List.map_append (l₁ := b), List.map_append (l₁ := b), List.set_append_right _ _ (by simp)]
  congr 1
  rw [List.length_map, show b.length + j - b.length = j from by omega]
  rcases (show j = 0 ∨ j = 1 ∨ j = 2 by omega) with rfl | rfl | rfl <;> rfl
theorem fillL_done (b : List UInt8) : fillL b 3 = lentL b := rfl
theorem fillL_len (b : List UInt8) (n j : Nat) (hb : b.length = n) (hj : j ≤ 3) : ((fillL b j).map bv).length = n + 3 := by simp [fillL]; omega
theorem fillL_start (b : List UInt8) (n : Nat) (hb : b.length = n) : splice (madeCells #[Value.int .u8 0] (n + 3)).toList 0 (b.map bv) = (fillL b 0).map bv := by
  have h : (madeCells #[Value.int .u8 0] (n + 3)).toList = List.replicate (n + 3) (Value.int .u8 0) := by
    have hl : (madeCells #[Value.int .u8 0] (n + 3)).toList.length = n + 3 := by simp [madeCells]
    refine List.ext_getElem (by rw [hl, List.length_replicate]) fun k h1 h2 => ?_
    rw [List.getElem_replicate]
    simp [madeCells, Nat.mod_one]
  rw [h]
  unfold splice fillL
  simp [hb]

set_option maxHeartbeats 1600000 in
set_option maxRecDepth 100000 in
theorem Lend_any (ao : Option Addr) (n c : Nat) (b : List UInt8) (w : World) (hr : Reads w ao n c (b.map bv)) (hn : n ≤ 140737488351300) :
    Calls Try.prog 21 #[.slice ao n c] w fun e w' => ∃ a2, e = .returned (.slice a2 n (n + 3)) ∧ Lent w' a2 n b ∧ Below w.heap.size w w' := by
  have hbl : b.length = n := by have := hr.1; simpa using this
  have HBL := Lib.hid hbl
  have HST := Lib.hid (fillL_start b n hbl)
  have hml : (madeCells #[Value.int .u8 0] (n + 3)).toList.length = n + 3 := by simp [madeCells]
  obtain ⟨i, hi, hz0, hz1, hz2⟩ := info_parts Try.sU8.hi
  have hmk : (Instr.makeSlice 22 (.int .i64 (n : Int)) (.int .i64 ((n : Int) + 3))).run Try.prog w = .ok (.slice (some ⟨w.heap.size, 0, none⟩) n (n + 3)) (w.alloc (.cells (madeCells #[Value.int .u8 0] (n + 3)).toList.toArray 5)) := by
    have h := run_make (P := Try.prog) w 22 5 i (.int .u8 0) Try.sU8.ht hi hz0 .i64 .i64 (n : Int) ((n : Int) + 3) (by omega) (by omega) (by rw [hz2]; omega) (by omega)
    rw [show ((n : Int) + 3).toNat = n + 3 from by omega, hz1, Nat.mul_one, Int.toNat_natCast] at h
    exact h
  generalize (madeCells #[Value.int .u8 0] (n + 3)).toList = Z at *
  have hct := run_cut_hi Try.sU8 (some ⟨w.heap.size, 0, none⟩) n (n + 3) (n + 3) (by omega)
  have HSZ : Hid ((Try.prog.info? 5).map (·.size) = some 1) := by unfold Hid; rw [hi]; simp [hz1]
  clear hi hz0 hz1 hz2
  have HSRC : Hid (∀ w', Below w.heap.size w w' → 0 < (b.map bv).length → ∃ ad, ao = some ad ∧ ∀ j v, (b.map bv)[j]? = some v → w'.cell? (ad.add j) = some v) := by
    intro w' hb hp
    have h2 := (hr.below hb).2.2.2.2
    cases ao with
    | none => have := h2.1 rfl; rw [this] at hp; simp at hp
    | some a => exact ⟨a, rfl, h2.2 a rfl⟩
  go_enter Try.func21, Try.ntmps21
  go_wp2_with (with_reducible refine wpList_copy_splice rfl (.tmp 12) (.tmp 13) 22 22 rfl 5 Try.underlying22 HSZ.out (some ⟨w.heap.size, 0, none⟩) ao n (n + 3) n c rfl rfl w.heap.size 0 Z 5 (heap_new _ _) (b.map bv) (by rw [List.length_map, hbl]; exact (Nat.min_self n).symm) (fun hpos => ⟨rfl, HSRC.out _ (Below.alloc (Below.refl _ _) (Nat.le_refl _) _) hpos⟩) (by rw [List.length_map, hbl, hml]; omega) (bv_one b) w.heap.size w (Below.alloc (Below.refl _ _) (Nat.le_refl _) _) (Nat.le_refl _) (fun w1 hg1 hb1 => ?_))
  have hown1 : w1.ownsRow w.heap.size 5 1 (.slice (some ⟨w.heap.size, 0, none⟩) (n + 3) (n + 3)) (n + 3) ((fillL b 0).map bv) := by
    have h1 := hg1.out
    rw [HST.out] at h1
    refine ⟨by rw [fillL_len b n 0 hbl (by omega)]; omega, .inr ⟨w.heap.size, n + 3, _, rfl, Nat.le_refl _, h1, Nat.le_refl _, by simp only [maxLen]; omega, ?_, ?_⟩⟩
    · simp only [List.size_toArray]; rw [fillL_len b n 0 hbl (by omega)]; omega
    · rw [List.toList_toArray, List.take_of_length_le (by rw [fillL_len b n 0 hbl (by omega)]; omega)]
  clear hg1 hr hmk hml HSRC
  generalize hgg : w.heap.size = g at *
  have HG := Lib.hid hgg
  clear hgg
  go_loopw [5] (fun i wr => ∃ j : Nat, j ≤ 3 ∧ i = .int .i64 ((n + j : Nat) : Int) ∧ wr.ownsRow g 5 1 (.slice (some ⟨g, 0, none⟩) (n + 3) (n + 3)) (n + 3) ((fillL b j).map bv) ∧ Below g w wr) (fun i _ => n + 3 - (intOf i).toNat)
  case atStart => exact ⟨0, by omega, rfl, hown1, hb1⟩
  case round =>
    obtain ⟨j, hj, rfl, hown, hbel⟩ := hrel
    clear hown1 hb1
    by_cases hlt : j < 3
    · have HS := Lib.hid (fillL_step b n j hbl hlt)
      have hl := fillL_len b n j hbl (by omega)
      obtain ⟨v0, hv0⟩ : ∃ v0, ((fillL b j).map bv)[n + j]? = some v0 := ⟨_, List.getElem?_eq_getElem (by omega)⟩
      have hc := hown.cellAt (n + j) (by omega)
      rw [hv0] at hc
      have hf := hown.frozenAt (n + j)
      have hst := hown.stored (n + j) (.int .u8 85)
      have hb2 : Below g w (wr.setCell ⟨g, n + j, none⟩ (.int .u8 85)) := hbel.setCell (Nat.le_refl g) _
      clear hl hv0 hown
      obtain ⟨q, hq⟩ : ∃ q, q = n + j := ⟨_, rfl⟩
      rw [← hq] at hc hf hst hb2 HS
      rw [← hq]
      have hq1 : (q : Int) < (n : Int) + 3 := by omega
      have hq2 : q < n + 3 := by omega
      have HQ := Lib.hid hq
      clear hq
      go_wp2
      go_roundw
      case rel => exact ⟨j + 1, by omega, by rw [← Nat.add_assoc, ← HQ.out]; go_num, by rw [HS.out]; exact hst.1, hb2⟩
      case measure => simp [intOf]; omega
    · obtain rfl : j = 3 := by omega
      go_wp2
      go_ret
      rw [fillL_done] at hown
      exact ⟨_, rfl, own_reads hown, by rw [HG.out]; exact hbel⟩
#print axioms Lend_any
end Go.Proofs.Ytgobccnphhljcaa
