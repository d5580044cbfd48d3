/- The statements NetBounds and NetOrder, of the printed plain functions. (3 4) -/
import Derived.Test.YtcfapdamgbbklaaNa
import Derived.WalkKit
namespace Go.Proofs.Ytcfapdamgbbklaa
set_option linter.unusedVariables false

/-- The Joins of the first numbers. -/
abbrev joinN (i : Nat) : api_Packet := ⟨1, 0, (i : Int), 0, 0, [], false, 0, 0⟩
def joinsB (n : Nat) : List net_bag := (List.range n).map fun i => ⟨sealL (pkL (joinN i)), false⟩
theorem joinsB_length (n : Nat) : (joinsB n).length = n := by simp [joinsB]
theorem joinsB_succ (n : Nat) : joinsB (n + 1) = joinsB n ++ [⟨sealL (pkL (joinN n)), false⟩] := by
  unfold joinsB; rw [List.range_succ, List.map_append]; rfl
theorem joinsB_get {n i : Nat} (h : i < n) : (joinsB n)[i]? = some ⟨sealL (pkL (joinN i)), false⟩ := by
  unfold joinsB; rw [List.getElem?_map, List.getElem?_range h]; rfl
theorem joinsB_byte {n : Nat} (h : n ≤ 65535) : ∀ x ∈ joinsB n, x.b_.length ≤ 1000000 := fun x hx => by
  obtain ⟨i, hi, rfl⟩ := List.mem_map.1 hx
  have : (sealL (pkL (joinN i))).length ≤ 2000 := seal_len (Pok_join (n := (i : Int)) (by omega) (by have := List.mem_range.1 hi; omega))
  show (sealL (pkL (joinN i))).length ≤ 1000000
  omega
theorem wakes20 : haulierlaw20_wakes = some true := by kernel_rfl
theorem bounds_l0 : ∀ k i : Nat, i ≤ 200 → 200 - i < k → haulierlaw20_NetBounds_l0 k ⟨joinsB i, []⟩ (i : Int) = some (Sum.inr ⟨joinsB 200, []⟩)
  | 0, i, _, h => by omega
  | k + 1, i, hi, hk => by
    unfold haulierlaw20_NetBounds_l0
    by_cases h : i < 200
    · have hp := Put_ok (s := ⟨joinsB i, []⟩) (a := 0) (p := joinN i) (.inl rfl) (Pok_join (by omega) (by omega)) (by show (joinsB i).length < 200; rw [joinsB_length]; exact h)
      rw [if_pos (by omega), hp, Option.bind_some]
      simp only []
      rw [if_neg (by decide), w64_small (by omega) (by omega), show ((i : Int) + 1) = ((i + 1 : Nat) : Int) by omega]
      have e : nset ⟨joinsB i, []⟩ 0 (nl ⟨joinsB i, []⟩ 0 ++ [⟨sealL (pkL (joinN i)), false⟩]) = ⟨joinsB (i + 1), []⟩ := by rw [joinsB_succ]; rfl
      rw [e]
      exact bounds_l0 k (i + 1) h (by omega)
    · rw [if_neg (by omega), show i = 200 by omega]
theorem nget_out {s : net_Net} {a i : Int} (h : ¬ (a = 0 ∨ a = 1)) : nget s a i = none := by
  unfold nget nl
  rw [if_neg (fun e => h (.inl e)), if_neg (fun e => h (.inr e))]
  split <;> simp
theorem nl_out {s : net_Net} {a : Int} (h : ¬ (a = 0 ∨ a = 1)) : nl s a = [] := by
  unfold nl
  rw [if_neg (fun e => h (.inl e)), if_neg (fun e => h (.inr e))]
theorem bounds_plain (a : Int) : haulierlaw20_NetBounds a = some true := by
  unfold haulierlaw20_NetBounds
  obtain ⟨n, hn, hn1⟩ := Within_eq (a := a) (n := 100) (by decide) (by decide)
  rw [New_net, Option.bind_some, hn, Option.bind_some]
  have hl := bounds_l0 bigN 0 (by omega) (by unfold bigN; omega)
  rw [show joinsB 0 = [] from rfl, show ((0 : Nat) : Int) = 0 from rfl] at hl
  rw [hl, Option.bind_some]
  simp only []
  rw [w64_small (n := 2 + (n : Int)) (by omega) (by omega), w64_small (n := 0 - (2 + (n : Int))) (by omega) (by omega)]
  have o1 : ¬ ((2 + (n : Int)) = 0 ∨ (2 + (n : Int)) = 1) := by omega
  have o2 : ¬ ((0 - (2 + (n : Int))) = 0 ∨ (0 - (2 + (n : Int))) = 1) := by omega
  have hok : NetOk ⟨joinsB 200, []⟩ := by
    have := netOk_new.set (a := 0) (l := joinsB 200) (by rw [joinsB_length]; omega) (joinsB_byte (by omega))
    exact this
  have hlen : (nl ⟨joinsB 200, []⟩ 0).length = 200 := joinsB_length 200
  have hp0 : Pok (joinN 0) := Pok_join (by omega) (by omega)
  rw [Get_eq hok, nget_out o1, Option.bind_some]
  simp only []
  rw [Take_none hok (nget_out o2), Option.bind_some]
  simp only []
  rw [show (⟨1, 0, 0, 0, 0, [], false, 0, 0⟩ : api_Packet) = joinN 0 from rfl]
  rw [Put_full (.inl rfl) hp0 (by rw [hlen]; omega), Option.bind_some]
  simp only []
  rw [if_neg (by decide), Again_none (.inr (by rw [hlen]; omega)), Option.bind_some]
  simp only []
  rw [if_neg (by decide), Put_ok (.inr rfl) hp0 (by show 0 < 200; omega), Option.bind_some]
  simp only []
  have e1 : nset ⟨joinsB 200, []⟩ 1 (nl ⟨joinsB 200, []⟩ 1 ++ [⟨sealL (pkL (joinN 0)), false⟩]) = ⟨joinsB 200, joinsB 1⟩ := rfl
  rw [e1]
  rw [if_neg (by decide), Put_bad (fun h => absurd h o1), Option.bind_some]
  simp only []
  rw [if_neg (by decide), Put_bad (fun h => by omega), Option.bind_some]
  simp only []
  rw [if_neg (by decide), Put_bad (fun _ => by unfold Pok; simp), Option.bind_some]
  simp only []
  rw [if_neg (by decide), NetLen_eq, nl_out o1, Option.bind_some]
  simp only []
  rw [if_neg (by simp), NetLen_eq, nl_out o2, Option.bind_some]
  simp only []
  rw [if_neg (by simp), if_neg (by decide), if_neg (by decide), Again_none (.inl (nget_out o1)), Option.bind_some]
  simp only []
  rw [if_neg (by decide), Spoil_none (nget_out o1), Option.bind_some, Option.bind_some]
  simp only []
  have hok2 : NetOk ⟨joinsB 200, joinsB 1⟩ := by
    have := hok.set (a := 1) (l := joinsB 1) (by rw [joinsB_length]; omega) (joinsB_byte (by omega))
    exact this
  have hg : nget ⟨joinsB 200, joinsB 1⟩ 0 ((199 : Nat) : Int) = some ⟨sealL (pkL (joinN 199)), false⟩ := joinsB_get (n := 200) (i := 199) (by omega)
  have ht := Take_some hok2 hg
  rw [show ((199 : Nat) : Int) = 199 from rfl] at ht
  rw [if_neg (by decide), ht, Option.bind_some]
  simp only []
  generalize hL : (nl ⟨joinsB 200, joinsB 1⟩ 0).take 199 ++ (nl ⟨joinsB 200, joinsB 1⟩ 0).drop (199 + 1) = L
  have hLl : L.length = 199 := by
    rw [← hL, List.length_append, List.length_take, List.length_drop]
    rw [show (nl ⟨joinsB 200, joinsB 1⟩ 0).length = 200 from joinsB_length 200]; rfl
  have hLg : L[5]? = some ⟨sealL (pkL (joinN 5)), false⟩ := by
    rw [← hL, List.getElem?_append_left (by rw [List.length_take, show (nl ⟨joinsB 200, joinsB 1⟩ 0).length = 200 from joinsB_length 200]; omega), List.getElem?_take, if_pos (by omega)]
    exact joinsB_get (n := 200) (i := 5) (by omega)
  have e2 : nset ⟨joinsB 200, joinsB 1⟩ 0 L = ⟨L, joinsB 1⟩ := rfl
  rw [e2, if_pos trivial, NetLen_eq, Option.bind_some]
  simp only []
  rw [show (nl ⟨L, joinsB 1⟩ 0) = L from rfl, hLl, if_pos (show ((199 : Nat) : Int) = 199 from rfl)]
  rw [Again_some (s := ⟨L, joinsB 1⟩) (a := 0) (i := 5) (x := ⟨sealL (pkL (joinN 5)), false⟩) hLg (by show L.length < 200; omega), Option.bind_some]
  simp only []
  rw [if_pos trivial, NetLen_eq, Option.bind_some]
  simp only []
  rw [nl_nset (.inl rfl), show (nl ⟨L, joinsB 1⟩ 0) = L from rfl, List.length_append, hLl, if_pos (show ((199 + [(⟨sealL (pkL (joinN 5)), false⟩ : net_bag)].length : Nat) : Int) = 200 from rfl), NetLen_eq, Option.bind_some]
  simp only []
  rw [nl_other (by decide), show (nl ⟨L, joinsB 1⟩ 1) = joinsB 1 from rfl, joinsB_length, if_pos (show ((1 : Nat) : Int) = 1 from rfl), wakes20]
  rfl
theorem order_l0 {n : Nat} (hn : n ≤ 8) : ∀ k i : Nat, i ≤ n + 1 → n + 1 - i < k → haulierlaw20_NetOrder_l0 (n : Int) k ⟨[], joinsB i⟩ (i : Int) = some (Sum.inr ⟨[], joinsB (n + 1)⟩)
  | 0, i, _, h => by omega
  | k + 1, i, hi, hk => by
    unfold haulierlaw20_NetOrder_l0
    rw [w64_small (n := 1 + (n : Int)) (by omega) (by omega)]
    by_cases h : i < n + 1
    · have hp := Put_ok (s := ⟨[], joinsB i⟩) (a := 1) (p := joinN i) (.inr rfl) (Pok_join (by omega) (by omega)) (by show (joinsB i).length < 200; rw [joinsB_length]; omega)
      rw [if_pos (by omega), hp, Option.bind_some]
      simp only []
      rw [if_neg (by decide), w64_small (by omega) (by omega), show ((i : Int) + 1) = ((i + 1 : Nat) : Int) by omega]
      have e : nset ⟨[], joinsB i⟩ 1 (nl ⟨[], joinsB i⟩ 1 ++ [⟨sealL (pkL (joinN i)), false⟩]) = ⟨[], joinsB (i + 1)⟩ := by rw [joinsB_succ]; rfl
      rw [e]
      exact order_l0 hn k (i + 1) (by omega) (by omega)
    · rw [if_neg (by omega), show i = n + 1 by omega]
/-- What number stands at a place in the end. -/
def orderAt (n m i : Nat) : Nat := if i = n then m else if m ≤ i then i + 1 else i
theorem order_l1 {n m : Nat} (hn : n ≤ 8) (hm : m ≤ n) {s : net_Net} (hs : NetOk s) (hl : (nl s 1).length = n + 1) (hg : ∀ i, i ≤ n → (nl s 1)[i]? = some ⟨sealL (pkL (joinN (orderAt n m i))), false⟩) : ∀ k i : Nat, i ≤ n + 1 → n + 1 - i < k →
    haulierlaw20_NetOrder_l1 (n : Int) (m : Int) k s (i : Int) = some (Sum.inr s)
  | 0, i, _, h => by omega
  | k + 1, i, hi, hk => by
    unfold haulierlaw20_NetOrder_l1
    rw [w64_small (n := 1 + (n : Int)) (by omega) (by omega), w64_small (n := 1 + (n : Int) - 1) (by omega) (by omega)]
    by_cases h : i < n + 1
    · rw [if_pos (by omega)]
      have e1 : ((if (m : Int) ≤ (i : Int) then some (w64 ((i : Int) + 1)) else some (i : Int) : Option Int)) = some (((if m ≤ i then i + 1 else i : Nat)) : Int) := by
        by_cases hc : m ≤ i
        · rw [if_pos (by omega), if_pos hc, w64_small (by omega) (by omega)]; congr 1
        · rw [if_neg (by omega), if_neg hc]
      rw [e1, Option.bind_some]
      have e2 : ((if (i : Int) = 1 + (n : Int) - 1 then some (m : Int) else some (((if m ≤ i then i + 1 else i : Nat)) : Int) : Option Int)) = some (orderAt n m i : Int) := by
        unfold orderAt
        by_cases hc : i = n
        · rw [if_pos (by omega), if_pos hc]
        · rw [if_neg (by omega), if_neg hc]
      rw [e2, Option.bind_some]
      have ho : orderAt n m i ≤ 9 := by unfold orderAt; split <;> (try split) <;> omega
      have hgi : nget s 1 (i : Int) = some ⟨sealL (pkL (joinN (orderAt n m i))), false⟩ := by
        unfold nget; rw [if_pos (by omega), Int.toNat_natCast]; exact hg i (by omega)
      rw [Get_eq hs, hgi, Option.bind_some]
      simp only []
      rw [Unpack_ok (Pok_join (by omega) (by omega)), Option.bind_some]
      simp only []
      rw [if_pos trivial, if_neg (by decide), if_neg (by simp), w64_small (by omega) (by omega), show ((i : Int) + 1) = ((i + 1 : Nat) : Int) by omega]
      exact order_l1 hn hm hs hl hg k (i + 1) (by omega) (by omega)
    · rw [if_neg (by omega)]
theorem order_plain (a b : Int) : haulierlaw20_NetOrder a b = some true := by
  unfold haulierlaw20_NetOrder
  obtain ⟨n, hn, hn1⟩ := Within_eq (a := a) (n := 9) (by decide) (by decide)
  have w1 : w64 (1 + (n : Int)) = 1 + (n : Int) := w64_small (by omega) (by omega)
  obtain ⟨m, hm, hm1⟩ := Within_eq (a := b) (n := 1 + (n : Int)) (by omega) (by omega)
  rw [New_net, Option.bind_some, hn, Option.bind_some, w1, hm, Option.bind_some]
  have hl := order_l0 (n := n) (by omega) bigN 0 (by omega) (by unfold bigN; omega)
  rw [show joinsB 0 = [] from rfl, show ((0 : Nat) : Int) = 0 from rfl] at hl
  rw [hl, Option.bind_some]
  simp only []
  have hok : NetOk ⟨[], joinsB (n + 1)⟩ := by
    have := netOk_new.set (a := 1) (l := joinsB (n + 1)) (by rw [joinsB_length]; omega) (joinsB_byte (by omega))
    exact this
  have hgm : nget ⟨[], joinsB (n + 1)⟩ 1 (m : Int) = some ⟨sealL (pkL (joinN m)), false⟩ := by
    unfold nget; rw [if_pos (by omega), Int.toNat_natCast]; exact joinsB_get (by omega)
  rw [Again_some hgm (by show (joinsB (n + 1)).length < 200; rw [joinsB_length]; omega), Option.bind_some]
  simp only []
  have e1 : nset ⟨[], joinsB (n + 1)⟩ 1 (nl ⟨[], joinsB (n + 1)⟩ 1 ++ [⟨sealL (pkL (joinN m)), false⟩]) = ⟨[], joinsB (n + 1) ++ [⟨sealL (pkL (joinN m)), false⟩]⟩ := rfl
  have hmp : Pok (joinN m) := Pok_join (by omega) (by omega)
  have hsl := seal_len hmp
  rw [e1, if_pos trivial]
  have hok2 : NetOk ⟨[], joinsB (n + 1) ++ [⟨sealL (pkL (joinN m)), false⟩]⟩ := by
    have := hok.put (a := 1) hmp (by show (joinsB (n + 1)).length < 200; rw [joinsB_length]; omega)
    exact this
  have hL2 : (joinsB (n + 1) ++ [(⟨sealL (pkL (joinN m)), false⟩ : net_bag)]).length = n + 2 := by rw [List.length_append, joinsB_length]; rfl
  have hg2 : nget ⟨[], joinsB (n + 1) ++ [⟨sealL (pkL (joinN m)), false⟩]⟩ 1 (m : Int) = some ⟨sealL (pkL (joinN m)), false⟩ := by
    unfold nget; rw [if_pos (by omega), Int.toNat_natCast]
    show (joinsB (n + 1) ++ [(⟨sealL (pkL (joinN m)), false⟩ : net_bag)])[m]? = _
    rw [List.getElem?_append_left (by rw [joinsB_length]; omega)]; exact joinsB_get (by omega)
  rw [NetLen_eq, Option.bind_some]
  simp only []
  rw [show nl ⟨[], joinsB (n + 1) ++ [⟨sealL (pkL (joinN m)), false⟩]⟩ 1 = joinsB (n + 1) ++ [⟨sealL (pkL (joinN m)), false⟩] from rfl, hL2, w64_small (by omega) (by omega), if_neg (by simp; omega), NetLen_eq, Option.bind_some, Option.bind_some]
  simp only []
  rw [if_neg (by simp [nl]), Get_eq hok2, hg2, Option.bind_some]
  simp only []
  rw [if_pos trivial, Option.bind_some, if_neg (by rw [sealL_length]; simp; omega)]
  have hpos : 0 < (sealL (pkL (joinN m))).length := by rw [sealL_length]; omega
  rw [if_pos ⟨by omega, by omega⟩, show ((0 : Int).toNat) = 0 from rfl, List.getElem?_eq_getElem hpos, Option.bind_some, if_pos ⟨by omega, by omega⟩, Option.bind_some]
  have ht := Take_some hok2 hg2
  rw [ht, Option.bind_some]
  simp only []
  rw [Unpack_ok hmp, Option.bind_some]
  simp only []
  rw [if_pos trivial, if_neg (by decide), if_neg (by simp)]
  generalize hL : (nl ⟨[], joinsB (n + 1) ++ [⟨sealL (pkL (joinN m)), false⟩]⟩ 1).take m ++ (nl ⟨[], joinsB (n + 1) ++ [⟨sealL (pkL (joinN m)), false⟩]⟩ 1).drop (m + 1) = L
  rw [show nl ⟨[], joinsB (n + 1) ++ [⟨sealL (pkL (joinN m)), false⟩]⟩ 1 = joinsB (n + 1) ++ [⟨sealL (pkL (joinN m)), false⟩] from rfl] at hL
  have hLl : L.length = n + 1 := by rw [← hL, List.length_append, List.length_take, List.length_drop, hL2]; omega
  have hLg : ∀ i, i ≤ n → L[i]? = some ⟨sealL (pkL (joinN (orderAt n m i))), false⟩ := fun i hi => by
    rw [← hL]
    have htl : ((joinsB (n + 1) ++ [(⟨sealL (pkL (joinN m)), false⟩ : net_bag)]).take m).length = m := by rw [List.length_take, hL2]; omega
    unfold orderAt
    by_cases c1 : i = n
    · subst c1
      rw [if_pos rfl, List.getElem?_append_right (by omega), htl, List.getElem?_drop, List.getElem?_append_right (by rw [joinsB_length]; omega), joinsB_length]
      rw [show m + 1 + (i - m) - (i + 1) = 0 by omega]; rfl
    · rw [if_neg c1]
      by_cases c2 : m ≤ i
      · rw [if_pos c2, List.getElem?_append_right (by omega), htl, List.getElem?_drop, show m + 1 + (i - m) = i + 1 by omega, List.getElem?_append_left (by rw [joinsB_length]; omega)]
        exact joinsB_get (by omega)
      · rw [if_neg c2, List.getElem?_append_left (by omega), List.getElem?_take, if_pos (by omega), List.getElem?_append_left (by rw [joinsB_length]; omega)]
        exact joinsB_get (by omega)
  have e2 : nset ⟨[], joinsB (n + 1) ++ [⟨sealL (pkL (joinN m)), false⟩]⟩ 1 L = ⟨[], L⟩ := rfl
  have hok3 : NetOk ⟨[], L⟩ := by
    have := netOk_new.set (a := 1) (l := L) (by omega) (fun x hx => by
      obtain ⟨i, hi, rfl⟩ := List.getElem_of_mem hx
      have h1 := hLg i (by omega)
      rw [List.getElem?_eq_getElem hi] at h1
      rw [Option.some.inj h1]
      have ho : orderAt n m i ≤ 9 := by unfold orderAt; split <;> (try split) <;> omega
      have : (sealL (pkL (joinN (orderAt n m i)))).length ≤ 2000 := seal_len (Pok_join (n := (orderAt n m i : Int)) (by omega) (by omega))
      show (sealL (pkL (joinN (orderAt n m i)))).length ≤ 1000000
      omega)
    exact this
  have hnl : nl ⟨[], L⟩ 1 = L := rfl
  rw [e2, NetLen_eq, hnl, hLl, Option.bind_some, Option.bind_some]
  simp only []
  rw [if_neg (by simp; omega)]
  have hl1 := order_l1 (n := n) (m := m) (by omega) (by omega) hok3 (by rw [hnl, hLl]) (by rw [hnl]; exact hLg) bigN 0 (by omega) (by unfold bigN; omega)
  rw [show ((0 : Nat) : Int) = 0 from rfl] at hl1
  rw [hl1, Option.bind_some]
  simp only []
  have hno : nget ⟨[], L⟩ 1 (1 + (n : Int)) = none := by
    unfold nget
    rw [if_pos (by omega), hnl, List.getElem?_eq_none (by omega)]
  have hno2 : nget ⟨[], L⟩ 1 (-1) = none := by unfold nget; rw [if_neg (by decide)]
  rw [Take_none hok3 hno, Option.bind_some]
  simp only []
  rw [Get_eq hok3, hno2, Option.bind_some]
  simp only []
  rw [if_neg (by decide), if_neg (by decide), Again_none (.inl hno), Option.bind_some]
  simp only []
  rw [if_neg (by decide), Spoil_none hno, Option.bind_some]
  simp only []
  rw [if_neg (by decide), wakes20]
  rfl
end Go.Proofs.Ytcfapdamgbbklaa
