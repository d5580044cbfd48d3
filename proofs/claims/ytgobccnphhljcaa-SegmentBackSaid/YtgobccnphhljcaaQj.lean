/- The statement SegmentBack, of the printed plain functions. -/
import Derived.Test.YtgobccnphhljcaaQi
namespace Go.Proofs.Ytgobccnphhljcaa
set_option linter.unusedVariables false

/-- The first records, cut. -/
def backU (p : List (List UInt8)) (i : Nat) : List (List UInt8) := (p.take i).map (List.take 60)
/-- The bytes up to a record. -/
def backB (h : List UInt8) (p : List (List UInt8)) (i : Nat) : List UInt8 := h ++ recsL (backU p i)
def backE (h : List UInt8) (p : List (List UInt8)) (i : Nat) : List Int := (List.range (i + 1)).map fun j => ((backB h p j).length : Int)
theorem backU_succ {p : List (List UInt8)} {i : Nat} (h : i < p.length) : backU p (i + 1) = backU p i ++ [p[i].take 60] := by
  unfold backU
  rw [List.take_succ_eq_append_getElem h, List.map_append]; rfl
theorem backB_succ {h : List UInt8} {p : List (List UInt8)} {i : Nat} (hi : i < p.length) : backB h p (i + 1) = backB h p i ++ unitL 2 (p[i].take 60) := by
  unfold backB
  rw [backU_succ hi, recsL_append, List.append_assoc]
  simp [recsL]
theorem backE_succ (h : List UInt8) (p : List (List UInt8)) (i : Nat) : backE h p (i + 1) = backE h p i ++ [((backB h p (i + 1)).length : Int)] := by
  unfold backE
  rw [List.range_succ, List.map_append]; rfl
theorem backE_length (h : List UInt8) (p : List (List UInt8)) (i : Nat) : (backE h p i).length = i + 1 := by simp [backE]
theorem backE_get (h : List UInt8) (p : List (List UInt8)) {i j : Nat} (hj : j ≤ i) : (backE h p i)[j]? = some ((backB h p j).length : Int) := by
  unfold backE
  rw [List.getElem?_map, List.getElem?_range (by omega)]; rfl
theorem backU_length {p : List (List UInt8)} {i : Nat} (h : i ≤ p.length) : (backU p i).length = i := by simp [backU, h]
theorem backU_mem {p : List (List UInt8)} {i : Nat} : ∀ u ∈ backU p i, u.length ≤ 60 := fun u h => by
  unfold backU at h
  obtain ⟨v, _, rfl⟩ := List.mem_map.1 h
  rw [List.length_take]; omega
theorem unit60 {u : List UInt8} (h : u.length ≤ 60) (k : UInt8) : u.length + 6 ≤ (unitL k u).length ∧ (unitL k u).length ≤ 73 := by
  have h1 := unitL_length k u
  rcases vsize_cases ((u.length : Int) + 5) with h2 | ⟨_, _, h2 | h2 | h2 | h2⟩ <;> omega
theorem backB_le {h : List UInt8} {p : List (List UInt8)} : ∀ i : Nat, i ≤ p.length → (backB h p i).length ≤ h.length + 73 * i
  | 0, _ => by simp [backB, backU, recsL]
  | i + 1, hi => by
    have := backB_le (h := h) (p := p) i (by omega)
    have hip : i < p.length := by omega
    have hu := unit60 (u := p[i].take 60) (by rw [List.length_take]; omega) 2
    rw [backB_succ hip, List.length_append]; omega
theorem back_l0 {p : List (List UInt8)} {h : List UInt8} (hh : h.length ≤ 100) (x0 : Int) : ∀ (k i : Nat), i ≤ min 6 p.length → min 6 p.length - i < k →
    haulierlaw09_SegmentBack_l0 p k (backU p i) (backE h p i) (backB h p i) (i : Int) = some (backE h p (min 6 p.length), backB h p (min 6 p.length), backU p (min 6 p.length))
  | 0, i, _, hk => by omega
  | k + 1, i, hi, hk => by
    unfold haulierlaw09_SegmentBack_l0
    have hc : ((if (i : Int) < (p.length : Int) then some (decide ((i : Int) < 6)) else some false : Option Bool)) = some (decide (i < min 6 p.length)) := by
      split
      · congr 1; rw [decide_eq_decide]; omega
      · congr 1; symm; rw [decide_eq_false_iff_not]; omega
    rw [hc, Option.bind_some]
    by_cases hlt : i < min 6 p.length
    · have hip : i < p.length := by omega
      rw [if_pos (by simpa using hlt), idx, if_pos (by omega), Int.toNat_natCast, List.getElem?_eq_getElem hip, Option.bind_some]
      have hcut := Cut_eq (l := p[i]) (n := 60) (by decide)
      rw [show ((60 : Nat) : Int) = 60 from rfl] at hcut
      rw [hcut, Option.bind_some]
      have hl60 : (p[i].take 60).length ≤ 60 := by rw [List.length_take]; omega
      have hu := unit60 hl60 2
      have hb := backB_le (h := h) i (show i ≤ p.length by omega)
      rw [Record_eq, if_pos (by omega), Option.bind_some]
      rw [if_pos ⟨by unfold fits; omega, by omega⟩, if_pos ⟨by rw [backE_length]; simp [fits]; omega, by rw [backE_length]; simp; omega⟩, Option.bind_some]
      rw [if_pos ⟨by rw [backU_length (by omega)]; simp [fits]; omega, by rw [backU_length (by omega)]; simp; omega⟩]
      rw [← backB_succ hip, ← backE_succ, ← backU_succ hip, w64_small (by omega) (by omega), show ((i : Int) + 1) = ((i + 1 : Nat) : Int) by omega]
      exact back_l0 hh x0 k (i + 1) (by omega) (by omega)
    · rw [if_neg (by simpa using hlt), show i = min 6 p.length by omega]
theorem back_l1 {us : List (List UInt8)} (hus : us.length ≤ 6) (h60 : ∀ u ∈ us, u.length ≤ 60) {f : segment_Found} (hf : f.Records = us) : ∀ (k i : Nat), i ≤ us.length → us.length - i < k →
    haulierlaw09_SegmentBack_l1 us f k (i : Int) = some (Sum.inr ())
  | 0, i, _, hk => by omega
  | k + 1, i, hi, hk => by
    unfold haulierlaw09_SegmentBack_l1
    by_cases hlt : i < us.length
    · rw [if_pos (by omega), hf, idx, if_pos (by omega), Int.toNat_natCast, List.getElem?_eq_getElem hlt, Option.bind_some, if_pos ⟨by omega, by omega⟩, Option.bind_some]
      rw [SameB_self (by have := h60 _ (List.getElem_mem hlt); omega), Option.bind_some, if_pos rfl, w64_small (by omega) (by omega), show ((i : Int) + 1) = ((i + 1 : Nat) : Int) by omega]
      exact back_l1 hus h60 hf k (i + 1) (by omega) (by omega)
    · rw [if_neg (by omega)]
theorem back_l2 {h : List UInt8} {p : List (List UInt8)} {m c : Nat} (hm : m ≤ 6) : ∀ (k i : Nat), i ≤ m + 1 → m + 1 - i < k → (∀ j, j < i → (backB h p j).length ≤ c) →
    ∃ r : Nat, haulierlaw09_SegmentBack_l2 (backE h p m) (c : Int) k (i : Int) = some (r : Int) ∧ r ≤ m + 1 ∧ (∀ j, j < r → (backB h p j).length ≤ c) ∧ (r ≤ m → c < (backB h p r).length)
  | 0, i, _, hk, _ => by omega
  | k + 1, i, hi, hk, hj => by
    unfold haulierlaw09_SegmentBack_l2
    rw [backE_length]
    by_cases hlt : i < m + 1
    · rw [if_pos (by omega), if_pos ⟨by omega, by omega⟩, Int.toNat_natCast, backE_get _ _ (by omega), Option.bind_some]
      by_cases hle : (backB h p i).length ≤ c
      · rw [if_pos (by omega), w64_small (by omega) (by omega), show ((i : Int) + 1) = ((i + 1 : Nat) : Int) by omega]
        exact back_l2 hm k (i + 1) (by omega) (by omega) (fun j hj2 => by
          rcases Nat.lt_succ_iff_lt_or_eq.1 hj2 with h | h
          · exact hj j h
          · subst h; exact hle)
      · rw [if_neg (by omega)]
        exact ⟨i, rfl, by omega, hj, fun _ => by omega⟩
    · rw [if_neg (by omega)]
      exact ⟨i, rfl, by omega, hj, fun h => by omega⟩
/-- What stands behind the first records. -/
theorem backB_split {h : List UInt8} {p : List (List UInt8)} {i : Nat} (hip : i < p.length) : ∀ d : Nat, i + 1 + d ≤ p.length → ∃ r, backB h p (i + 1 + d) = backB h p i ++ (unitL 2 (p[i].take 60) ++ r)
  | 0, _ => ⟨[], by rw [Nat.add_zero, backB_succ hip, List.append_nil]⟩
  | d + 1, hd => by
    have hid : i + 1 + d < p.length := by omega
    obtain ⟨r, hr⟩ := backB_split (h := h) hip d (by omega)
    refine ⟨r ++ unitL 2 (p[i + 1 + d].take 60), ?_⟩
    rw [show i + 1 + (d + 1) = (i + 1 + d) + 1 from rfl, backB_succ hid, hr, List.append_assoc, List.append_assoc]
theorem cut0 {l : List UInt8} {b : Nat} (h : b ≤ l.length) : cut l 0 (b : Int) = some (l.take b) := by
  have := cut_eq (Nat.zero_le b) h
  rw [List.drop_zero] at this
  exact this
theorem set_flip {d : List UInt8} {q : Nat} {z : UInt8} (hz : d[q / 8]? = some z) : d.set (q / 8) (z ^^^ sl8 (1 : UInt8) ((q % 8 : Nat) : Int)) = flipBit d q := by
  unfold flipBit
  have h : ∀ n : Fin 8, sl8 (1 : UInt8) (n.val : Int) = 1 <<< UInt8.ofNat n.val := by decide +kernel
  have h2 := h ⟨q % 8, by omega⟩
  rw [h2, List.getD_eq_getElem?_getD, hz]; rfl
theorem u64of_nat {n : Nat} (h : n < 18446744073709551616) : ((u64of (n : Int)).toNat : Int) = (n : Int) := by
  unfold u64of
  rw [show ((n : Int) % 18446744073709551616).toNat = n by omega, UInt64.toNat_ofNat']
  omega
/-- A unit whose seal has a digit turned: the scan ends ahead of it. -/
theorem next_turned {a r : List UInt8} {k : UInt8} {u : List UInt8} (hu : u.length ≤ 4160) {w : Nat} (hw : w < 8 * (u.length + 5)) :
    (nextL (flipBit (a ++ unitL k u ++ r) (8 * (a.length + vsize ((u.length + 5 : Nat) : Int)) + w)) a.length false).2.2.1 = false ∧
    ∃ c, flipBit (a ++ unitL k u ++ r) (8 * (a.length + vsize ((u.length + 5 : Nat) : Int)) + w) = a ++ c := by
  have hs : (sealL (k :: u)).length = u.length + 5 := by rw [sealL_length]; simp
  have hv := vput_length ((u.length + 5 : Nat) : Int)
  have e : flipBit (a ++ unitL k u ++ r) (8 * (a.length + vsize ((u.length + 5 : Nat) : Int)) + w) = a ++ vput ((u.length + 5 : Nat) : Int) ++ flipBit (sealL (k :: u)) w ++ r := by
    have := flip_mid (a ++ vput ((u.length + 5 : Nat) : Int)) (sealL (k :: u)) r (k := w) (by omega)
    rw [List.length_append, hv] at this
    rw [← this]
    unfold unitL spanL
    rw [hs, ← List.append_assoc]
  rw [e]
  have ho := flip_open (s := sealL (k :: u)) (k := w) (by omega) (openB_seal _)
  have hl := flipBit_length (sealL (k :: u)) w
  rw [hs] at hl
  generalize flipBit (sealL (k :: u)) w = x at *
  refine ⟨next_spoilt (x := x) (rest := r) (by rw [List.length_append, List.length_append, List.length_append]; omega) (by omega) ?_ ho, ⟨vput ((u.length + 5 : Nat) : Int) ++ x ++ r, by simp only [List.append_assoc]⟩⟩
  rw [List.append_assoc, List.append_assoc, List.drop_left, hl, List.append_assoc]
theorem back_plain (a : Int) (p : List (List UInt8)) (c d : Int) : haulierlaw09_SegmentBack a p c d = some true := by
  obtain ⟨n0, hn, hn1⟩ := Within_eq (a := a) (n := 1073741824) (by decide) (by decide)
  unfold haulierlaw09_SegmentBack
  rw [hn, Option.bind_some]
  have e1 : w64 (1 + (n0 : Int)) = ((n0 + 1 : Nat) : Int) := by rw [w64_small (by omega) (by omega)]; omega
  rw [e1]
  have hN1 : 1 ≤ n0 + 1 := by omega
  have hN2 : n0 + 1 ≤ 1073741824 := by omega
  generalize n0 + 1 = n at *
  have hvn := vput_length (n : Int)
  have hsn := vsize_le (n : Int)
  obtain ⟨hH1, hH2⟩ := unit60 (u := vput (n : Int)) (by omega) 1
  rw [Head_eq, if_pos (by omega), Option.bind_some]
  generalize hHe : unitL 1 (vput (n : Int)) = H at *
  have hl0 := back_l0 (p := p) (h := H) (by omega) 0 bigN 0 (Nat.zero_le _) (by unfold bigN; omega)
  rw [show backU p 0 = [] by simp [backU], show backE H p 0 = [(H.length : Int)] by simp [backE, backB, backU, recsL], show backB H p 0 = H by simp [backB, backU, recsL], show ((0 : Nat) : Int) = 0 from rfl] at hl0
  rw [hl0, Option.bind_some]
  simp only []
  have hmp : min 6 p.length ≤ p.length := Nat.min_le_right _ _
  have hm6 : min 6 p.length ≤ 6 := Nat.min_le_left _ _
  generalize min 6 p.length = m at *
  have hBl : ∀ i, i ≤ m → (backB H p i).length ≤ 100 + 73 * i := fun i hi => by have := backB_le (h := H) (p := p) i (by omega); omega
  have hBm := hBl m (Nat.le_refl _)
  have hUl := backU_length (p := p) hmp
  have hU : ∀ i, ∀ u ∈ backU p i, u.length ≤ 4160 := fun i u hu => by have := backU_mem u hu; omega
  have hstop : ∀ (i : Nat) (r : List UInt8), i ≤ m → r.length ≤ 10000 → (nextL (backB H p i ++ r) (backB H p i).length false).2.2.1 = false → segment_Scan (backB H p i ++ r) = some ⟨(n : Int), backU p i, ((backB H p i).length : Int), false⟩ := fun i r hi hr hno => by
    have hbi := hBl i hi
    have := scan_stop (b := backB H p i ++ r) (c := r) (by rw [List.length_append]; omega) (n := n) (by omega) (by omega) (us := backU p i) (hU i) (by rw [backU_length (by omega)]; omega) (by rw [hHe]; rfl)
    rw [hHe] at this
    exact this hno
  have hS1 := hstop m [] (Nat.le_refl _) (by simp) (next_cut (k := 2) (u := []) (j := 0) (by simp) (by simp) (unitL_ne _ _) (by rw [List.drop_left]; rfl))
  rw [List.append_nil] at hS1
  rw [hS1, Option.bind_some, Copy_eq (by omega), Option.bind_some, Foot_eq, if_pos (by omega), Option.bind_some, hUl]
  have hvm := vput_length (m : Int)
  have hsm := vsize_le (m : Int)
  obtain ⟨hF1, hF2⟩ := unit60 (u := vput (n : Int) ++ vput (m : Int)) (by rw [List.length_append]; omega) 3
  have hS2 : segment_Scan (backB H p m ++ unitL 3 (vput (n : Int) ++ vput (m : Int))) = some ⟨(n : Int), backU p m, ((backB H p m ++ unitL 3 (vput (n : Int) ++ vput (m : Int))).length : Int), true⟩ := by
    rw [scan_head (n := n) (us := backU p m) (rest := unitL 3 (vput (n : Int) ++ vput (m : Int))) (by rw [List.length_append]; omega) (by omega) (by omega) (hU m) (by omega) (by rw [hHe]; rfl), hHe, ← List.length_append, hUl]
    rw [show bigN - m = (bigN - m - 1) + 1 by unfold bigN; omega]
    have := foot_ok (b := backB H p m ++ unitL 3 (vput (n : Int) ++ vput (m : Int))) (rest := []) (by rw [List.length_append]; omega) (n := n) (us := backU p m) (by omega) (K := bigN - m - 1) (i := (backB H p m).length) (by rw [List.length_append]; omega) (by rw [List.drop_left, hUl, List.append_nil])
    rw [hUl] at this
    rw [show (H ++ recsL (backU p m)) = backB H p m from rfl, this, List.length_append]
    simp
  generalize hFe : unitL 3 (vput (n : Int) ++ vput (m : Int)) = F at *
  have hFl : F.length ≤ 73 := hF2
  rw [if_pos ⟨by unfold fits; omega, by omega⟩, hS2, Option.bind_some]
  simp only []
  rw [if_neg (by simp), if_neg (by simp), if_neg (by simp), if_neg (by decide), if_neg (by simp), if_neg (by simp [hUl]), if_neg (by simp), Option.bind_some, if_neg (by decide)]
  have hl1 := back_l1 (us := backU p m) (by omega) backU_mem (f := ⟨(n : Int), backU p m, ((backB H p m ++ F).length : Int), true⟩) rfl bigN 0 (Nat.zero_le _) (by unfold bigN; omega)
  rw [show ((0 : Nat) : Int) = 0 from rfl] at hl1
  rw [hl1, Option.bind_some]
  simp only []
  rw [w64_small (by omega) (by omega)]
  obtain ⟨x, hx, hx1⟩ := Within_eq (a := c) (n := ((backB H p m).length : Int) + 1) (by omega) (by omega)
  rw [hx, Option.bind_some]
  obtain ⟨r, hr, hr1, hr2, hr3⟩ := back_l2 (h := H) (p := p) (m := m) (c := x) hm6 bigN 0 (by omega) (by unfold bigN; omega) (fun j h => by omega)
  rw [show ((0 : Nat) : Int) = 0 from rfl] at hr
  rw [hr, Option.bind_some, cut0 (by rw [List.length_append]; omega), Option.bind_some]
  rw [List.take_append_of_le_length (by omega)]
  by_cases hr0 : r = 0
  · subst hr0
    have hxh : x < H.length := by
      have := hr3 (Nat.zero_le _)
      rwa [show backB H p 0 = H by simp [backB, backU, recsL]] at this
    have hz : segment_Scan ((backB H p m).take x) = some ⟨0, [], 0, false⟩ := by
      refine scan_none (by rw [List.length_take]; omega) (next_cut (k := 1) (u := vput (n : Int)) (j := x) (Nat.zero_le _) (by omega) (by rw [hHe]; exact hxh) ?_)
      rw [List.drop_zero, hHe]
      unfold backB
      rw [List.take_append_of_le_length (by omega)]
    rw [hz, Option.bind_some]
    simp only []
    rw [show ((0 : Nat) : Int) = 0 from rfl, if_pos rfl, if_pos trivial, if_pos (show ((([] : List (List UInt8)).length : Nat) : Int) = 0 from rfl), if_pos trivial, if_neg (by decide), wakes09]
    rfl
  · obtain ⟨j, rfl⟩ : ∃ j, r = j + 1 := ⟨r - 1, by omega⟩
    have hxj : (backB H p j).length ≤ x := hr2 j (by omega)
    have hsplit : ∀ j, j < m → ∃ (hj : j < p.length) (q : List UInt8), backB H p m = backB H p j ++ (unitL 2 (p[j].take 60) ++ q) := fun j hj => by
      have hjp : j < p.length := by omega
      obtain ⟨q, hq⟩ := backB_split (h := H) hjp (m - j - 1) (by omega)
      rw [show j + 1 + (m - j - 1) = m by omega] at hq
      exact ⟨hjp, q, hq⟩
    have hz : segment_Scan ((backB H p m).take x) = some ⟨(n : Int), backU p j, ((backB H p j).length : Int), false⟩ := by
      by_cases hjm : j < m
      · obtain ⟨hjp, q, hq⟩ := hsplit j hjm
        have hlt := hr3 (by omega)
        rw [backB_succ hjp, List.length_append] at hlt
        have e : (backB H p m).take x = backB H p j ++ (unitL 2 (p[j].take 60)).take (x - (backB H p j).length) := by
          rw [hq, List.take_append, List.take_of_length_le hxj, List.take_append_of_le_length (by omega)]
        rw [e]
        exact hstop j _ (by omega) (by have := unit60 (u := p[j].take 60) (by rw [List.length_take]; omega) 2; rw [List.length_take]; omega) (next_cut (k := 2) (u := p[j].take 60) (j := x - (backB H p j).length) (by rw [List.length_append]; omega) (by rw [List.length_take]; omega) (by omega) (by rw [List.drop_left]))
      · obtain rfl : j = m := by omega
        rw [List.take_of_length_le (by omega)]
        exact hS1
    rw [hz, Option.bind_some, if_neg (by omega)]
    simp only []
    have ew : w64 (((j + 1 : Nat) : Int) - 1) = (j : Int) := by rw [w64_small (by omega) (by omega)]; omega
    rw [ew, backE_length, backU_length (by omega), if_neg (by simp), if_neg (by simp), if_pos ⟨by omega, by omega⟩, Int.toNat_natCast, backE_get _ _ (by omega), Option.bind_some, if_neg (by simp), Option.bind_some, if_neg (by decide)]
    obtain ⟨t, ht, ht1⟩ := Within_eq (a := d) (n := ((m + 1 : Nat) : Int)) (by omega) (by omega)
    rw [ht, Option.bind_some]
    -- where the unit begins, and which it is
    have hunit : ∃ (s : Nat) (A q u : List UInt8) (k : UInt8), A.length = s ∧ backB H p m = A ++ (unitL k u ++ q) ∧ u.length ≤ 60 ∧ (backE H p m)[t]? = some ((s + (unitL k u).length : Nat) : Int) ∧
        ((if 0 < (t : Int) then (if (0 : Int) ≤ w64 ((t : Int) - 1) ∧ w64 ((t : Int) - 1) < ((m + 1 : Nat) : Int) then ((backE H p m)[(w64 ((t : Int) - 1)).toNat]?).bind fun z => some z else none) else some 0 : Option Int) = some (s : Int)) ∧
        (∀ e c, (nextL (A ++ c) A.length false).2.2.1 = false → c.length ≤ 1000 → segment_Scan e = some ⟨0, [], 0, false⟩ → True) ∧
        (∀ c : List UInt8, c.length ≤ 1000 → (nextL (A ++ c) A.length false).2.2.1 = false → ∃ f, segment_Scan (A ++ c) = some f ∧ f.Sealed = false ∧ f.Records.length = t - 1 ∧ (t = 0 ↔ f.Number = 0) ∧ f.Whole = (s : Int)) := by
      by_cases ht0 : t = 0
      · subst ht0
        refine ⟨0, [], recsL (backU p m), vput (n : Int), 1, rfl, by rw [hHe]; rfl, by omega, ?_, by rw [if_neg (by omega)]; rfl, fun _ _ _ _ _ => trivial, fun c hc hno => ?_⟩
        · rw [backE_get _ _ (Nat.zero_le _), hHe]; simp [backB, backU, recsL]
        · exact ⟨_, scan_none (by simp; omega) hno, rfl, rfl, by simp, rfl⟩
      · obtain ⟨v, rfl⟩ : ∃ v, t = v + 1 := ⟨t - 1, by omega⟩
        obtain ⟨hvp, q, hq⟩ := hsplit v (by omega)
        have ew : w64 (((v + 1 : Nat) : Int) - 1) = (v : Int) := by rw [w64_small (by omega) (by omega)]; omega
        refine ⟨(backB H p v).length, backB H p v, q, p[v].take 60, 2, rfl, hq, by rw [List.length_take]; omega, ?_, ?_, fun _ _ _ _ _ => trivial, fun c hc hno => ?_⟩
        · rw [backE_get _ _ (by omega), backB_succ hvp, List.length_append]
        · rw [ew, if_pos (by omega), if_pos ⟨by omega, by omega⟩, Int.toNat_natCast, backE_get _ _ (by omega)]; rfl
        · exact ⟨_, hstop v c (by omega) (by omega) hno, rfl, by rw [backU_length (by omega)]; omega, by simp; omega, rfl⟩
    obtain ⟨s, A, q, u, k, hA, hB, hu, hE, hst, -, hsc⟩ := hunit
    obtain ⟨hu1, hu2⟩ := unit60 hu k
    have hlB := congrArg List.length hB
    rw [List.length_append, List.length_append] at hlB
    rw [hst, Option.bind_some]
    have hul : (unitL k u).length = vsize ((u.length + 5 : Nat) : Int) + (u.length + 5) := by rw [unitL_length]; rw [show ((u.length + 5 : Nat) : Int) = (u.length : Int) + 5 by omega]; omega
    have hss := vsize_le ((u.length + 5 : Nat) : Int)
    have hs1 : (sealL (k :: u)).length = u.length + 5 := by rw [sealL_length]; simp
    rw [cut_rest (by omega), Option.bind_some, refTake_eq, Option.bind_some]
    have htk : takenL ((backB H p m).drop s) = (((u.length + 5 : Nat) : Int), ((vsize ((u.length + 5 : Nat) : Int) : Nat) : Int), true) := by
      unfold takenL
      rw [hB, ← hA, List.drop_left]
      unfold unitL spanL
      rw [hs1, List.append_assoc, vtake_vput (by omega)]
    rw [htk]
    simp only []
    rw [if_pos trivial, if_pos ⟨by omega, by omega⟩, Int.toNat_natCast, hE, Option.bind_some]
    have f1 : w64 (((s + (unitL k u).length : Nat) : Int) - (s : Int)) = ((unitL k u).length : Int) := by rw [w64_small (by omega) (by omega)]; omega
    have f2 : w64 (((unitL k u).length : Int) - ((vsize ((u.length + 5 : Nat) : Int) : Nat) : Int)) = ((u.length + 5 : Nat) : Int) := by rw [w64_small (by omega) (by omega)]; omega
    rw [f1, f2, Option.bind_some, if_neg (by simp; omega), Copy_eq (by rw [List.length_append]; omega), Option.bind_some, if_pos ⟨by omega, by omega⟩, Option.bind_some]
    rw [f1, f2, show w64 (8 * ((u.length + 5 : Nat) : Int)) = ((8 * (u.length + 5) : Nat) : Int) by rw [w64_small (by omega) (by omega)]; omega, Option.bind_some]
    obtain ⟨w, hw, hw1⟩ := Within_eq (a := w64 (d.tdiv 7)) (n := ((8 * (u.length + 5) : Nat) : Int)) (by omega) (by omega)
    rw [hw, Option.bind_some]
    have hpl : w64 (w64 (8 * w64 ((s : Int) + ((vsize ((u.length + 5 : Nat) : Int) : Nat) : Int))) + (w : Int)) = ((8 * (s + vsize ((u.length + 5 : Nat) : Int)) + w : Nat) : Int) := by
      rw [w64_small (n := (s : Int) + _) (by omega) (by omega), w64_small (n := 8 * _) (by omega) (by omega), w64_small (by omega) (by omega)]; omega
    rw [hpl, Option.bind_some]
    have hturn := next_turned (a := A) (r := q ++ F) (k := k) (u := u) (by omega) (w := w) (by omega)
    have hwhole : backB H p m ++ F = A ++ unitL k u ++ (q ++ F) := by rw [hB]; simp only [List.append_assoc]
    rw [hA, ← hwhole] at hturn
    generalize hpe : 8 * (s + vsize ((u.length + 5 : Nat) : Int)) + w = place at *
    have hd8 : w64 ((place : Int).tdiv 8) = ((place / 8 : Nat) : Int) := by
      rw [show (place : Int).tdiv 8 = ((place / 8 : Nat) : Int) from rfl, w64_small (by omega) (by omega)]
    have hm8 : (place : Int).tmod 8 = ((place % 8 : Nat) : Int) := rfl
    have hpb : place / 8 < (backB H p m ++ F).length := by rw [List.length_append]; omega
    rw [hd8, hm8, if_pos ⟨by omega, by omega⟩, Int.toNat_natCast, List.getElem?_eq_getElem hpb, Option.bind_some, u64of_nat (by omega), set_flip (List.getElem?_eq_getElem hpb)]
    rw [if_pos ⟨by omega, by omega⟩, Option.bind_some]
    obtain ⟨hno, c', hc'⟩ := hturn
    have hlc := congrArg List.length hc'
    rw [flipBit_length, List.length_append, List.length_append] at hlc
    rw [hc'] at hno ⊢
    obtain ⟨f, hf, hf1, hf2, hf3, hf4⟩ := hsc c' (by omega) (by rw [hA]; exact hno)
    rw [hf, Option.bind_some, if_neg (by rw [hf1]; decide)]
    have hmx : (if w64 ((t : Int) - 1) < 0 then 0 else w64 ((t : Int) - 1)) = ((t - 1 : Nat) : Int) := by
      rw [w64_small (by omega) (by omega)]; split <;> omega
    rw [hmx, Option.bind_some, hf2, if_pos rfl]
    rw [if_pos (by
      rw [beq_iff_eq, decide_eq_decide]
      constructor
      · intro h; exact hf3.1 (by omega)
      · intro h; have := hf3.2 h; omega), if_pos hf4, wakes09]
    rfl
end Go.Proofs.Ytgobccnphhljcaa
