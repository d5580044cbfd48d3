/- The walks of slices.Grow, slices.Concat at bytes; sealed bytes, made and opened. -/
import Derived.Test.YtcfapdamgbbklaaWb
import Derived.Lib.AppendZeros
import Derived.Deep.RegionHeld3
namespace Go.Proofs.Ytcfapdamgbbklaa
open Go.RowKit

set_option maxHeartbeats 400000 in
set_option maxRecDepth 100000 in
theorem Growb_any (n : Nat) (w : World) (hn : n ≤ 140737488355328) :
    Calls Try.prog 45 #[.slice none 0 0, .int .i64 (n : Int)] w fun e w' => ∃ ao cap, e = .returned (.slice ao 0 cap) ∧ w'.ownsRow w.heap.size 5 1 (.slice ao 0 cap) 0 [] ∧ Below w.heap.size w w' := by
  by_cases h0 : n = 0
  · subst h0
    go_enter Try.func45, Try.ntmps45
    go_wp2
    go_ret
    exact ⟨_, _, rfl, own_nil _ _ _, Below.refl _ _⟩
  · have hpos : 0 < n := by omega
    clear h0
    obtain ⟨i, hi, hz0, hz1, hz2⟩ := info_parts Try.sU8.hi
    have hrun := fun ty => Lib.run_append_nil_zeros (P := Try.prog) w 27 3 ty 5 i (.int .u8 0) .i64 .i64 Try.underlying27 Try.underlying3 hi hz0 n hpos (by omega) (by omega) (by rw [hz2]; omega)
    have hge := grownCap_ge w n 0 5
    have hle := grownCap_le_maxLen w n 0 5 (by simp only [maxLen]; omega)
    have hcm : grownCap w n 0 5 ≤ 9223372036854775807 := by simpa only [maxLen] using hle
    have hsz : (Builtin.zeroCells (Value.cells (.int .u8 0)) n ++ Builtin.zeroCells (Value.cells (.int .u8 0)) (grownCap w n 0 5 - n)).size = grownCap w n 0 5 * 1 := by
      simp only [Array.size_append, size_zeroCells]
      rw [show (Value.cells (.int .u8 0)).size = 1 from rfl]; omega
    generalize grownCap w n 0 5 = cap at *
    generalize (Builtin.zeroCells (Value.cells (.int .u8 0)) n ++ Builtin.zeroCells (Value.cells (.int .u8 0)) (cap - n)) = cs at *
    have hrun' := hrun 27
    clear hrun hi hz0 hz1 hz2
    have HSZ := Lib.hid hsz
    clear hsz
    go_enter Try.func45, Try.ntmps45
    go_wp2_with (at_builtin; refine Lib.wpList_append_run _ rfl _ _ 27 3 rfl _ _ rfl rfl _ _ hrun' ?_)
    go_ret
    refine ⟨_, _, rfl, ?_, ?_⟩
    · exact World.ownsRow_made w.drew cs cap (Nat.le_refl _) hle HSZ.out
    · exact ((Below.refl _ _).drew).alloc (by simp) _
#print axioms Growb_any

/-- A piece: where it lies, how long it is, its capacity, its bytes. -/
structure Piece where
  ao : Option Addr
  n : Nat
  c : Nat
  b : List UInt8
def Piece.val (p : Piece) : Value := .slice p.ao p.n p.c
def Piece.ok (w : World) (p : Piece) : Prop := Reads w p.ao p.n p.c (p.b.map bv)
def sumN (l : List Piece) : Nat := (l.map (·.n)).sum
def allB (l : List Piece) : List UInt8 := l.flatMap (·.b)
theorem sumN_snoc {l : List Piece} {k : Nat} {p : Piece} (h : l[k]? = some p) : sumN (l.take (k + 1)) = sumN (l.take k) + p.n := by
  unfold sumN; rw [List.take_add_one, h]; simp
theorem allB_snoc {l : List Piece} {k : Nat} {p : Piece} (h : l[k]? = some p) : (allB (l.take (k + 1))).map bv = (allB (l.take k)).map bv ++ p.b.map bv := by
  unfold allB; rw [List.take_add_one, h]; simp
theorem sumN_append (a b : List Piece) : sumN (a ++ b) = sumN a + sumN b := by
  unfold sumN; rw [List.map_append, List.sum_append]
theorem sumN_le {l : List Piece} (k : Nat) : sumN (l.take k) ≤ sumN l := by
  have h := sumN_append (l.take k) (l.drop k)
  rw [List.take_append_drop] at h
  omega
theorem allB_length {w : World} {l : List Piece} (h : ∀ p ∈ l, p.ok w) : (allB l).length = sumN l := by
  induction l with
  | nil => rfl
  | cons p l ih =>
    have h1 := ih fun q hq => h q (by simp [hq])
    have h2 := (h p (by simp)).1
    simp only [List.length_map] at h2
    unfold allB sumN at *
    simp only [List.flatMap_cons, List.length_append, List.map_cons, List.sum_cons]
    omega
/-- Piece k, letter by letter. -/
theorem piece_at {w : World} {ao : Option Addr} {m c : Nat} {l : List Piece} (h : Reads w ao m c (l.map Piece.val)) (hl : ∀ p ∈ l, p.ok w) {k : Nat} (hk : k < m) :
    ∃ a ak nk ck bk, ao = some a ∧ w.cell? (a.add k) = some (.slice ak nk ck) ∧ Reads w ak nk ck (bk.map bv) ∧ Hid (l[k]? = some ⟨ak, nk, ck, bk⟩) := by
  obtain ⟨a, ha, hc⟩ := h.at hk
  have hk' : k < l.length := by have := h.1; simp at this; omega
  have hm := hl l[k] (List.getElem_mem hk')
  refine ⟨a, l[k].ao, l[k].n, l[k].c, l[k].b, ha, by rw [hc]; simp [List.getD, hk', Piece.val], hm, ?_⟩
  unfold Hid; simp [hk']

set_option maxHeartbeats 800000 in
set_option maxRecDepth 100000 in
theorem Concatb_any (ao : Option Addr) (m c : Nat) (l : List Piece) (w : World) (hr : Reads w ao m c (l.map Piece.val)) (hl : ∀ p ∈ l, p.ok w) (hsum : sumN l ≤ 140737488355328) :
    Calls Try.prog 34 #[.slice ao m c] w (FreshB w 5 (allB l)) := by
  have HM : Hid (l.length = m) := by have := hr.1; unfold Hid; simpa using this
  have hmx : m ≤ 9223372036854775807 := by have h1 := hr.2.1; have h2 := hr.2.2.1; simp only [maxLen] at h2; omega
  have HALL := Lib.hid (allB_length hl)
  go_enter Try.func34, Try.ntmps34
  go_wp2
  go_loop [3, 5, 11] (fun s _ i => ∃ k : Nat, k ≤ m ∧ i = .int .i64 k ∧ s = .int .i64 ((sumN (l.take k) : Nat) : Int)) (fun _ _ i => m - (intOf i).toNat)
  case atStart => exact ⟨0, by omega, rfl, rfl⟩
  case round =>
    obtain ⟨k, hk, rfl, rfl⟩ := hrel
    by_cases hlt : k < m
    · obtain ⟨a, ak, nk, ck, bk, rfl, hc, _, HP⟩ := piece_at hr hl hlt
      have hs := sumN_snoc HP.out
      dsimp only at hs
      have hle := sumN_le (l := l) (k + 1)
      generalize hs1 : sumN (l.take (k + 1)) = s1 at hs hle
      have HS1 := Lib.hid hs1; clear hs1
      generalize sumN (l.take k) = s0 at hs
      have h1 : s0 + nk ≤ 140737488355328 := by omega
      have HS := Lib.hid hs; clear hs
      have hng : decide ((s0 : Int) + (nk : Int) < 0) = false := by simp; omega
      clear hr HP hle hsum HALL HM
      go_wp2
      go_round
      case rel => exact ⟨k + 1, by omega, by go_num, by rw [HS1.out, HS.out]; go_num⟩
      case measure => simp [intOf]; omega
    · obtain rfl : m = k := by omega
      have HTK : Hid (l.take m = l) := by unfold Hid; exact List.take_of_length_le (by have := HM.out; omega)
      have h0 : sumN (l.take m) ≤ 140737488355328 := by rw [HTK.out]; exact hsum
      have HSUM : Hid (sumN (l.take m) = sumN l) := by unfold Hid; rw [HTK.out]
      generalize sumN (l.take m) = s0 at h0 HSUM
      clear hsum hlt
      go_wp2_with (go_at_call 45; (with_reducible refine (Growb_any s0 w h0).mono ?_); rintro e w1 ⟨ao1, cap1, rfl, hown1, hbel1⟩)
      have hbs1 := hbel1.size
      go_loopw [6, 8, 27] (fun v _ i wr => ∃ k n : Nat, ∃ ao2 cap2, k ≤ m ∧ i = .int .i64 k ∧ v = .slice ao2 n cap2 ∧ Hid (n = sumN (l.take k)) ∧ wr.ownsRow w.heap.size 5 1 (.slice ao2 n cap2) n ((allB (l.take k)).map bv) ∧ Below w.heap.size w wr) (fun _ _ i _ => m - (intOf i).toNat)
      case atStart => exact ⟨0, 0, ao1, cap1, by omega, rfl, rfl, rfl, hown1, hbel1⟩
      case round =>
        obtain ⟨k, n, ao2, cap2, hk, rfl, rfl, HN, hown, hbel⟩ := hrel
        by_cases hlt : k < m
        · obtain ⟨a, ak, nk, ck, bk, rfl, hc, hrk, HP⟩ := piece_at hr hl hlt
          have hc' := (hbel.cell (World.block_lt_of_cell? w _ hc)).trans hc
          have hrk' := hrk.below hbel
          have hs := sumN_snoc HP.out
          dsimp only at hs
          have hle := sumN_le (l := l) (k + 1)
          have h1 : n + nk ≤ 140737488355328 := by have := HN.out; unfold Hid at this; have h3 := HSUM.out; unfold Hid at h3; omega
          have HS := Lib.hid hs; clear hs
          have HB := Lib.hid (allB_snoc HP.out)
          have hbs := hbel.size
          clear hr HP hle HALL HM hc hrk hown1 hbel1 HTK HSUM
          go_wp2_with (at_builtin; refine wpL_appN Try.sU8 hown hrk' (bv_one _) hbs (by omega) (by omega) rfl rfl rfl rfl (fun ao' cap' w' hown' hbel' => ?_))
          go_roundw
          case rel => exact ⟨k + 1, n + nk, ao', cap', by omega, by go_num, rfl, by unfold Hid; rw [HS.out, HN.out], by rw [HB.out]; exact hown', hbel.trans hbel'⟩
          case measure => simp [intOf]; omega
        · obtain rfl : m = k := by omega
          clear hr hown1 hbel1
          go_wp2
          go_ret
          refine ⟨_, _, _, rfl, ?_, ?_, hbel⟩
          · unfold Hid; rw [HALL.out, HN.out, HTK.out]
          · rw [HTK.out] at hown; exact hown
#print axioms Concatb_any

/-- A word, so many bytes further. -/
def shw (s : UInt32) : Nat → UInt32
  | 0 => s
  | k + 1 => shw s k >>> 8
def lew (s : UInt32) (k : Nat) : List UInt8 := (List.range k).map fun i => (shw s i).toUInt8
theorem lew_snoc (s : UInt32) (k : Nat) : (lew s (k + 1)).map bv = (lew s k).map bv ++ [.int .u8 ((shw s k).toUInt8.toNat : Int)] := by
  simp [lew, List.range_succ]
theorem shr_shr (s : UInt32) (a : UInt32) (b : UInt32) (c : UInt32) (hc : a.toNat + b.toNat = c.toNat) (h : c.toNat < 32) : (s >>> a) >>> b = s >>> c := by
  apply UInt32.toNat_inj.1
  simp only [UInt32.toNat_shiftRight]
  rw [Nat.mod_eq_of_lt (by omega : a.toNat < 32), Nat.mod_eq_of_lt (by omega : b.toNat < 32), Nat.mod_eq_of_lt h, ← Nat.shiftRight_add, hc]
theorem lew_four (s : UInt32) : lew s 4 = le4 s := by
  unfold lew le4
  simp only [List.range, List.range.loop, List.map, shw]
  rw [shr_shr s 8 8 16 rfl (by decide), shr_shr s 16 8 24 rfl (by decide)]
theorem shw_num (s : UInt32) (k : Nat) : ((shw s k).toNat : Int) / 256 = ((shw s (k + 1)).toNat : Int) := by
  show _ = ((shw s k >>> 8).toNat : Int)
  rw [UInt32.toNat_shiftRight]; simp [Nat.shiftRight_eq_div_pow]
theorem shw_byte (s : UInt32) (k : Nat) : ((shw s k).toNat : Int) % 256 = ((shw s k).toUInt8.toNat : Int) := by
  rw [UInt32.toNat_toUInt8]; simp

set_option maxHeartbeats 800000 in
set_option maxRecDepth 100000 in
theorem ofb_any (ao : Option Addr) (n c : Nat) (b : List UInt8) (w : World) (hr : Reads w ao n c (b.map bv)) :
    Calls Try.prog 28 #[.slice ao n c] w (FreshB w 5 (le4 (crc b))) := by
  go_enter Try.func28, Try.ntmps28
  go_wp2_with (first | (go_at_call 39; (refine (Table_any _).mono ?_); rintro e w1 ⟨aot, capt, rfl, hown, hbel⟩) | (go_at_call 38; (with_reducible refine (Of_any _ _ _ _ b n _ (own_reads hown) (hr.below hbel)).mono ?_); rintro e w2 ⟨rfl, rfl⟩))
  have hbs := hbel.size
  have HL := Lib.hid (lew_four (crc b))
  generalize hcs : crc b = s at HL
  have HC := Lib.hid hcs
  clear hcs
  clear hown hr
  go_loopw [3, 4, 8] (fun u v i wr => ∃ k : Nat, ∃ ao2 cap2, k ≤ 4 ∧ i = .int .i64 k ∧ u = .int .u32 ((shw s k).toNat : Int) ∧ v = .slice ao2 k cap2 ∧ wr.ownsRow w.heap.size 5 1 (.slice ao2 k cap2) k ((lew s k).map bv) ∧ Below w.heap.size w wr) (fun _ _ i _ => 4 - (intOf i).toNat)
  case atStart => exact ⟨0, none, 0, by omega, rfl, rfl, rfl, own_nil _ _ _, hbel⟩
  case round =>
    obtain ⟨k, ao2, cap2, hk, rfl, rfl, rfl, hown, hbelr⟩ := hrel
    by_cases hlt : k < 4
    · have h1 := shw_num s k
      have h2 := shw_byte s k
      have HB := Lib.hid (lew_snoc s k)
      have h3 := (shw s k).toNat_lt
      generalize hs1 : shw s (k + 1) = s1 at h1
      have HS1 := Lib.hid hs1
      clear hs1
      generalize (shw s k).toUInt8 = y at h2 HB
      generalize shw s k = s0 at h1 h2 h3
      have hbsr := hbelr.size
      go_wp2_with (at_builtin; refine wpL_app1 Try.sU8 hown rfl (by omega) (by omega) (by omega) rfl rfl rfl rfl (fun ao' cap' w' hown' hbel' => ?_))
      go_roundw
      case rel => exact ⟨k + 1, ao', cap', by omega, by go_num, by rw [HS1.out], rfl, by rw [HB.out]; exact hown', hbelr.trans hbel'⟩
      case measure => simp [intOf]; omega
    · obtain rfl : k = 4 := by omega
      go_wp2
      go_ret
      refine ⟨_, _, _, rfl, rfl, ?_, hbelr⟩
      rw [HL.out] at hown; rw [HC.out]; exact hown
#print axioms ofb_any

set_option maxHeartbeats 800000 in
set_option maxRecDepth 100000 in
theorem Sealb_any (ao : Option Addr) (n c : Nat) (b : List UInt8) (w : World) (hr : Reads w ao n c (b.map bv)) (hn : n ≤ 140737488351300) :
    Calls Try.prog 27 #[.slice ao n c] w (FreshB w 5 (sealL b)) := by
  go_enter Try.func27, Try.ntmps27
  go_wp2_with fail
  refine (ofb_any ao n c b w hr).mono ?_
  rintro e w1 ⟨ao2, n2, cap2, rfl, hn2, hown, hbel⟩
  obtain rfl : n2 = 4 := hn2
  have hr1 := hr.below hbel
  have hr2 := own_reads hown
  clear hr hown
  go_wp2_with fail
  have hal := Below.alloc (Below.refl w1.heap.size w1) (Nat.le_refl _) (.cells #[.slice ao n c, .slice ao2 4 cap2] 27)
  refine (Concatb_any _ 2 2 [⟨ao, n, c, b⟩, ⟨ao2, 4, cap2, le4 (crc b)⟩] _ (reads_new w1 _ _ 2 rfl (by decide)) ?_ ?_).mono ?_
  · intro p hp
    simp only [List.mem_cons, List.not_mem_nil, or_false] at hp
    rcases hp with rfl | rfl
    · exact hr1.below hal
    · exact hr2.below hal
  · simp [sumN]; omega
  rintro e w2 ⟨ao3, n3, cap3, rfl, hn3, hown3, hbel3⟩
  clear hr1 hr2
  go_wp2
  go_ret
  have he : allB [⟨ao, n, c, b⟩, ⟨ao2, 4, cap2, le4 (crc b)⟩] = sealL b := by simp [allB, sealL]
  rw [he] at hn3 hown3
  have hsz := hbel.size
  refine ⟨_, _, _, rfl, hn3, ?_, ?_⟩
  · exact own_base hown3 (by simp; omega)
  · exact (hbel.trans (hal.mono hsz)).trans (hbel3.mono (by simp; omega))
#print axioms Sealb_any
end Go.Proofs.Ytcfapdamgbbklaa
