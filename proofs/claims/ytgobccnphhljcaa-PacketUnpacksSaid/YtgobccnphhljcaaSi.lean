/- Bytes that are lent, with three behind them: how they come, that they are as they were, in the logic of owned and of lasting memory. -/
import Derived.Test.YtgobccnphhljcaaSh
namespace Go.Proofs.Ytgobccnphhljcaa
open Go.RowKit
set_option linter.unusedVariables false

set_option maxHeartbeats 1600000 in
set_option maxRecDepth 100000 in
theorem Lend_own (ao : Option Addr) (n c : Nat) (b : List UInt8) (w : World) (hr : Reads w ao n c (b.map bv)) (hn : n ≤ 140737488351300) :
    Calls Try.prog 21 #[.slice ao n c] w fun e w' => ∃ a2, e = .returned (.slice a2 n (n + 3)) ∧ w'.ownsRow w.heap.size 5 1 (.slice a2 (n + 3) (n + 3)) (n + 3) ((lentL b).map bv) ∧ Below w.heap.size w w' := by
  have hbl : b.length = n := by have := hr.1; simpa using this
  have HBL := Lib.hid hbl
  have HST := Lib.hid (fillL_start b n hbl)
  have hml : (madeCells #[Value.int .u8 0] (n + 3)).toList.length = n + 3 := by simp [madeCells]
  obtain ⟨i, hi, hz0, hz1, hz2⟩ := info_parts Try.sU8.hi
  have hmk : (Instr.makeSlice 22 (.int .i64 (n : Int)) (.int .i64 ((n : Int) + 3))).run Try.prog w = .ok (.slice (some ⟨w.heap.size, 0, none⟩) n (n + 3)) (w.alloc (.cells (madeCells #[Value.int .u8 0] (n + 3)).toList.toArray 5)) := by
    have h := run_make (P := Try.prog) w 22 5 i (.int .u8 0) Try.sU8.ht hi hz0 .i64 .i64 (n : Int) ((n : Int) + 3) (by omega) (by omega) (by rw [hz2]; omega) (by omega)
    rw [show ((n : Int) + 3).toNat = n + 3 from by omega, hz1, Nat.mul_one, Int.toNat_natCast] at h
    exact h
  generalize (madeCells #[Value.int .u8 0] (n + 3)).toList = Z at *
  have hct := run_cut_hi Try.sU8 (some ⟨w.heap.size, 0, none⟩) n (n + 3) (n + 3) (by omega)
  have HSZ : Hid ((Try.prog.info? 5).map (·.size) = some 1) := by unfold Hid; rw [hi]; simp [hz1]
  clear hi hz0 hz1 hz2
  have HSRC : Hid (∀ w', Below w.heap.size w w' → 0 < (b.map bv).length → ∃ ad, ao = some ad ∧ ∀ j v, (b.map bv)[j]? = some v → w'.cell? (ad.add j) = some v) := by
    intro w' hb hp
    have h2 := (hr.below hb).2.2.2.2
    cases ao with
    | none => have := h2.1 rfl; rw [this] at hp; simp at hp
    | some a => exact ⟨a, rfl, h2.2 a rfl⟩
  go_enter Try.func21, Try.ntmps21
  go_wp2_with (with_reducible refine wpList_copy_splice rfl (.tmp 12) (.tmp 13) 22 22 rfl 5 Try.underlying22 HSZ.out (some ⟨w.heap.size, 0, none⟩) ao n (n + 3) n c rfl rfl w.heap.size 0 Z 5 (heap_new _ _) (b.map bv) (by rw [List.length_map, hbl]; exact (Nat.min_self n).symm) (fun hpos => ⟨rfl, HSRC.out _ (Below.alloc (Below.refl _ _) (Nat.le_refl _) _) hpos⟩) (by rw [List.length_map, hbl, hml]; omega) (bv_one b) w.heap.size w (Below.alloc (Below.refl _ _) (Nat.le_refl _) _) (Nat.le_refl _) (fun w1 hg1 hb1 => ?_))
  have hown1 : w1.ownsRow w.heap.size 5 1 (.slice (some ⟨w.heap.size, 0, none⟩) (n + 3) (n + 3)) (n + 3) ((fillL b 0).map bv) := by
    have h1 := hg1.out
    rw [HST.out] at h1
    refine ⟨by rw [fillL_len b n 0 hbl (by omega)]; omega, .inr ⟨w.heap.size, n + 3, _, rfl, Nat.le_refl _, h1, Nat.le_refl _, by simp only [maxLen]; omega, ?_, ?_⟩⟩
    · simp only [List.size_toArray]; rw [fillL_len b n 0 hbl (by omega)]; omega
    · rw [List.toList_toArray, List.take_of_length_le (by rw [fillL_len b n 0 hbl (by omega)]; omega)]
  clear hg1 hr hmk hml HSRC
  generalize hgg : w.heap.size = g at *
  have HG := Lib.hid hgg
  clear hgg
  go_loopw [5] (fun i wr => ∃ j : Nat, j ≤ 3 ∧ i = .int .i64 ((n + j : Nat) : Int) ∧ wr.ownsRow g 5 1 (.slice (some ⟨g, 0, none⟩) (n + 3) (n + 3)) (n + 3) ((fillL b j).map bv) ∧ Below g w wr) (fun i _ => n + 3 - (intOf i).toNat)
  case atStart => exact ⟨0, by omega, rfl, hown1, hb1⟩
  case round =>
    obtain ⟨j, hj, rfl, hown, hbel⟩ := hrel
    clear hown1 hb1
    by_cases hlt : j < 3
    · have HS := Lib.hid (fillL_step b n j hbl hlt)
      have hl := fillL_len b n j hbl (by omega)
      obtain ⟨v0, hv0⟩ : ∃ v0, ((fillL b j).map bv)[n + j]? = some v0 := ⟨_, List.getElem?_eq_getElem (by omega)⟩
      have hc := hown.cellAt (n + j) (by omega)
      rw [hv0] at hc
      have hf := hown.frozenAt (n + j)
      have hst := hown.stored (n + j) (.int .u8 85)
      have hb2 : Below g w (wr.setCell ⟨g, n + j, none⟩ (.int .u8 85)) := hbel.setCell (Nat.le_refl g) _
      clear hl hv0 hown
      obtain ⟨q, hq⟩ : ∃ q, q = n + j := ⟨_, rfl⟩
      rw [← hq] at hc hf hst hb2 HS
      rw [← hq]
      have hq1 : (q : Int) < (n : Int) + 3 := by omega
      have hq2 : q < n + 3 := by omega
      have HQ := Lib.hid hq
      clear hq
      go_wp2
      go_roundw
      case rel => exact ⟨j + 1, by omega, by rw [← Nat.add_assoc, ← HQ.out]; go_num, by rw [HS.out]; exact hst.1, hb2⟩
      case measure => simp [intOf]; omega
    · obtain rfl : j = 3 := by omega
      go_wp2
      go_ret
      rw [fillL_done] at hown
      exact ⟨_, rfl, by rw [HG.out]; exact hown, by rw [HG.out]; exact hbel⟩

theorem rows_bv' {I : Mem} : ∀ xs : List UInt8, Rows I (xs.map bv) xs
  | [] => rfl
  | x :: xs => ⟨[bv x], xs.map bv, rfl, rfl, rows_bv' xs⟩
/-- Lent bytes last, and what lies behind them. -/
def LV (I : Mem) (v : Value) (xs : List UInt8) : Prop := ∃ a, v = .slice a xs.length (xs.length + 3) ∧ IV I (.slice a (xs.length + 3) (xs.length + 3)) (lentL xs)
theorem LV.up {I J : Mem} {v : Value} {xs : List UInt8} (k : Mem.le I J) : LV I v xs → LV J v xs := fun ⟨a, h1, h2⟩ => ⟨a, h1, h2.up k⟩
theorem lentL_length (xs : List UInt8) : (lentL xs).length = xs.length + 3 := by simp [lentL]
theorem LV.iv {I : Mem} {v : Value} {xs : List UInt8} (h : LV I v xs) : IV I v xs := by
  obtain ⟨a, rfl, h⟩ := h
  rcases h with ⟨⟨ao, e⟩, _⟩ | ⟨g, off, cap, C, E, fr, e, hg, cs, sp, h1, h2, h3, h4, h5⟩
  · injection e with e1 e2 e3; omega
  · injection e with e1 e2 e3
    subst e1 e3
    have hc := rows_u8 h2
    refine .inr ⟨g, off, _, C, E, fr, rfl, hg, xs.map bv, ([85, 85, 85] : List UInt8).map bv ++ sp, ?_, rows_bv' xs, h3, by omega, h5⟩
    rw [h1, hc]
    simp [lentL]
theorem W21 {I : Mem} {G : List Asn} {p0 r : List UInt8} (h : haulierkeep_Lend p0 = some r) {u0 : Value} (hp0 : IV I u0 p0) : CallsS Try.prog 21 #[u0] I G (fun v J G' => ∃ a c, v = .slice a r.length c ∧ IV J (.slice a r.length c) r ∧ LV J (.slice a r.length c) r ∧ G = G') := by
  obtain ⟨hl, rfl⟩ := some_of_if h
  intro w hw
  obtain ⟨ao, c, rfl, hr⟩ := hp0.reads hw
  refine (Lend_own ao _ c p0 w hr (by unfold lim14 at hl; omega)).mono fun e w' ⟨a2, he, ho, hb⟩ => ?_
  have h2 := hw.fresh (xs := lentL p0) hb ho (lentL_length p0).symm
  obtain ⟨J, h3, h4, h5⟩ := h2.freeze_ov
  rw [lentL_length] at h4
  have h6 : LV J (.slice a2 p0.length (p0.length + 3)) p0 := ⟨a2, rfl, h4⟩
  exact ⟨_, J, _, he, h3, ⟨a2, _, rfl, h6.iv, h6, rfl⟩, h5, belowExt hb⟩
theorem W28 {I : Mem} {G : List Asn} {p0 p1 : List UInt8} {r : Bool} (h : haulierkeep_Intact p0 p1 = some r) {u0 : Value} (hp0 : LV I u0 p0) {u1 : Value} (hp1 : IV I u1 p1) : CallsS Try.prog 28 #[u0, u1] I G (fun v J G' => v = .bool r ∧ G = G') := by
  obtain ⟨⟨rfl, hl⟩, rfl⟩ := some_of_if h
  intro w hw
  obtain ⟨a, rfl, h2⟩ := hp0
  obtain ⟨ao, c, e, hr⟩ := h2.reads hw
  rw [lentL_length] at e hr
  injection e with e1 e2 e3
  subst e1 e3
  obtain ⟨ao1, c1, rfl, hr1⟩ := hp1.reads hw
  exact (Intact_any _ ao1 _ _ c1 p0 w hr hr1 (by unfold lim14 at hl; omega)).mono fun e w' ⟨he, d, hd⟩ => by
    have hb := below_of_drewN w.heap.size w d
    rw [← hd] at hb
    exact ⟨_, I, G, he, Mem.le.refl _, ⟨rfl, rfl⟩, hw.below hb, belowExt hb⟩
end Go.Proofs.Ytgobccnphhljcaa
