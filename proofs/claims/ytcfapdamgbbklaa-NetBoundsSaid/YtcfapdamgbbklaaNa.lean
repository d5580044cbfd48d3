/- What the printed functions compute, in plain Lean: what is under way. (7 12) -/
import Derived.Test.YtcfapdamgbbklaaTc
namespace Go.Proofs.Ytcfapdamgbbklaa
set_option linter.unusedVariables false

theorem side_eq (a : Int) : net_side a = some (decide (a = 0 ∨ a = 1)) := by
  unfold net_side
  split
  · rename_i h; simp [h]
  · rename_i h; simp [h]
/-- What is under way to a side. -/
def nl (s : net_Net) (a : Int) : List net_bag := if a = 0 then s.l_0 else if a = 1 then s.l_1 else []
def nset (s : net_Net) (a : Int) (l : List net_bag) : net_Net := if a = 0 then ⟨l, s.l_1⟩ else if a = 1 then ⟨s.l_0, l⟩ else s
theorem nl_nset {s : net_Net} {a : Int} (h : a = 0 ∨ a = 1) (l : List net_bag) : nl (nset s a l) a = l := by
  rcases h with rfl | rfl <;> rfl
theorem nl_other {s : net_Net} {a b : Int} (h : a ≠ b) (l : List net_bag) : nl (nset s a l) b = nl s b := by
  unfold nl nset
  by_cases h0 : a = 0
  · subst h0
    rw [if_pos rfl, if_neg (Ne.symm h), if_neg (Ne.symm h)]
  · rw [if_neg h0]
    by_cases h1 : a = 1
    · subst h1
      rw [if_pos rfl]
      by_cases hb : b = 0
      · rw [if_pos hb, if_pos hb]
      · rw [if_neg hb, if_neg hb, if_neg (Ne.symm h), if_neg (Ne.symm h)]
    · rw [if_neg h1]
/-- Not too much is under way. -/
structure NetOk (s : net_Net) : Prop where
  len : ∀ a, (nl s a).length ≤ 200
  byte : ∀ a, ∀ x ∈ nl s a, x.b_.length ≤ 1000000
theorem NetOk.set {s : net_Net} (h : NetOk s) {a : Int} {l : List net_bag} (h1 : l.length ≤ 200) (h2 : ∀ x ∈ l, x.b_.length ≤ 1000000) : NetOk (nset s a l) := by
  by_cases ha : a = 0 ∨ a = 1
  · refine ⟨fun b => ?_, fun b => ?_⟩ <;> by_cases hb : a = b
    · subst hb; rw [nl_nset ha]; exact h1
    · rw [nl_other hb]; exact h.len b
    · subst hb; rw [nl_nset ha]; exact h2
    · rw [nl_other hb]; exact h.byte b
  · have e : nset s a l = s := by
      unfold nset
      rw [if_neg (fun e => ha (.inl e)), if_neg (fun e => ha (.inr e))]
    rw [e]; exact h
theorem NetLen_eq (s : net_Net) (a : Int) : net_Net_Len s a = some (((nl s a).length : Int), s) := by
  unfold net_Net_Len nl
  rw [side_eq, Option.bind_some]
  by_cases h0 : a = 0
  · rw [if_pos (by simp [h0]), if_pos h0, if_pos h0]
  · by_cases h1 : a = 1
    · rw [if_pos (by simp [h1]), if_neg h0, if_neg h0, if_pos h1, if_pos h1]
    · rw [if_neg (by simp [h0, h1]), if_neg h0, if_neg h1]; rfl
theorem there_eq (s : net_Net) (a i : Int) : net_Net_there s a i = some (decide (0 ≤ i ∧ i < ((nl s a).length : Int)), s) := by
  unfold net_Net_there
  by_cases h : 0 ≤ i
  · rw [if_pos h, NetLen_eq, Option.bind_some]; simp [h]
  · rw [if_neg h]; simp [h]
/-- The bytes at a place. -/
def nget (s : net_Net) (a i : Int) : Option net_bag := if 0 ≤ i then (nl s a)[i.toNat]? else none
theorem nget_some {s : net_Net} {a i : Int} {x : net_bag} (h : nget s a i = some x) : 0 ≤ i ∧ i < ((nl s a).length : Int) ∧ (nl s a)[i.toNat]? = some x ∧ x ∈ nl s a ∧ (a = 0 ∨ a = 1) := by
  unfold nget at h
  split at h
  · rename_i h0
    obtain ⟨hl, he⟩ := List.getElem?_eq_some_iff.1 h
    refine ⟨h0, by omega, h, by rw [← he]; exact List.getElem_mem hl, ?_⟩
    unfold nl at hl
    by_cases a0 : a = 0
    · exact .inl a0
    · by_cases a1 : a = 1
      · exact .inr a1
      · rw [if_neg a0, if_neg a1] at hl; simp at hl
  · cases h
theorem nget_none {s : net_Net} {a i : Int} (h : nget s a i = none) : ¬ (0 ≤ i ∧ i < ((nl s a).length : Int)) := fun ⟨h0, h1⟩ => by
  unfold nget at h
  rw [if_pos h0, List.getElem?_eq_none_iff] at h
  omega
theorem eta (s : net_Net) : (⟨s.l_0, s.l_1⟩ : net_Net) = s := rfl
theorem Get_eq {s : net_Net} (hs : NetOk s) (a i : Int) : net_Net_Get s a i = some (match nget s a i with | some x => (x.b_, true, s) | none => ([], false, s)) := by
  unfold net_Net_Get
  rw [there_eq, Option.bind_some]
  simp only []
  cases hg : nget s a i with
  | none => rw [if_neg (by have := nget_none hg; simpa using this)]
  | some x =>
    obtain ⟨h0, h1, h2, h3, h4⟩ := nget_some hg
    have hb := hs.byte a x h3
    have hc : bytes_Clone x.b_ = some x.b_ := by
      unfold bytes_Clone
      rw [if_pos (by unfold lim14; omega)]
    rw [if_pos (by simp; omega)]
    rcases h4 with rfl | rfl
    · rw [if_pos rfl]
      rw [if_pos ⟨h0, h1⟩, show s.l_0[i.toNat]? = some x from h2, Option.bind_some, hc]; rfl
    · rw [if_neg (by decide), if_pos rfl]
      rw [if_pos ⟨h0, h1⟩, show s.l_1[i.toNat]? = some x from h2, Option.bind_some, hc]; rfl
theorem Put_bad {s : net_Net} {a : Int} {p : api_Packet} (h : (a = 0 ∨ a = 1) → ¬ Pok p) : net_Net_Put s a p = some (1, s) := by
  unfold net_Net_Put
  rw [side_eq, Option.bind_some]
  by_cases ha : a = 0 ∨ a = 1
  · rw [if_pos (by simpa using ha), show (⟨p.Kind, p.Path, p.Number, p.Of, p.From, p.Data, p.Fin, p.Seen, p.Limit⟩ : api_Packet) = p from rfl, Pack_bad (h ha), Option.bind_some]
    simp only []
    rw [if_pos (by decide)]
  · rw [if_neg (by simpa using ha)]
theorem Put_full {s : net_Net} {a : Int} {p : api_Packet} (ha : a = 0 ∨ a = 1) (hp : Pok p) (h : 200 ≤ (nl s a).length) : net_Net_Put s a p = some (5, s) := by
  unfold net_Net_Put
  rw [side_eq, Option.bind_some, if_pos (by simpa using ha), show (⟨p.Kind, p.Path, p.Number, p.Of, p.From, p.Data, p.Fin, p.Seen, p.Limit⟩ : api_Packet) = p from rfl, Pack_ok hp, Option.bind_some]
  simp only []
  rw [if_neg (by decide), NetLen_eq, Option.bind_some]
  simp only []
  rw [if_pos (by omega)]
theorem Put_ok {s : net_Net} {a : Int} {p : api_Packet} (ha : a = 0 ∨ a = 1) (hp : Pok p) (h : (nl s a).length < 200) : net_Net_Put s a p = some (0, nset s a (nl s a ++ [⟨sealL (pkL p), false⟩])) := by
  unfold net_Net_Put
  rw [side_eq, Option.bind_some, if_pos (by simpa using ha), show (⟨p.Kind, p.Path, p.Number, p.Of, p.From, p.Data, p.Fin, p.Seen, p.Limit⟩ : api_Packet) = p from rfl, Pack_ok hp, Option.bind_some]
  simp only []
  rw [if_neg (by decide), NetLen_eq, Option.bind_some]
  simp only []
  rw [if_neg (by omega)]
  rcases ha with rfl | rfl
  · have hl : s.l_0.length < 200 := h
    rw [if_pos rfl, if_pos ⟨by unfold fits; rw [List.length_singleton]; omega, by rw [List.length_singleton]; omega⟩]
    rfl
  · have hl : s.l_1.length < 200 := h
    rw [if_neg (by decide), if_pos rfl, if_pos ⟨by unfold fits; rw [List.length_singleton]; omega, by rw [List.length_singleton]; omega⟩]
    rfl
theorem Delete_eq {l : List net_bag} {i : Nat} (h : i < l.length) (hl : l.length ≤ 200) : slices_Delete_snet_bag_net_bag l (i : Int) ((i : Int) + 1) = some (l.take i ++ l.drop (i + 1)) := by
  unfold slices_Delete_snet_bag_net_bag
  have e1 : ((i : Int) + 1).toNat = i + 1 := by omega
  have hlen : (l.take i ++ l.drop (i + 1)).length = l.length - 1 := by rw [List.length_append, List.length_take, List.length_drop]; omega
  rw [if_pos (by omega), if_neg (by omega), if_pos (by omega), if_pos (by omega), Int.toNat_natCast, Int.toNat_natCast, e1, if_pos (by omega), hlen, if_pos (by omega)]
theorem Take_none {s : net_Net} (hs : NetOk s) {a i : Int} (h : nget s a i = none) : net_Net_Take s a i = some ([], false, s) := by
  unfold net_Net_Take
  rw [Get_eq hs, h, Option.bind_some]
  rfl
theorem Take_some {s : net_Net} (hs : NetOk s) {a : Int} {i : Nat} {x : net_bag} (h : nget s a (i : Int) = some x) : net_Net_Take s a (i : Int) = some (x.b_, true, nset s a ((nl s a).take i ++ (nl s a).drop (i + 1))) := by
  obtain ⟨h0, h1, h2, h3, h4⟩ := nget_some h
  have hl := hs.len a
  unfold net_Net_Take
  rw [Get_eq hs, h, Option.bind_some]
  simp only []
  rw [if_pos trivial, w64_small (by omega) (by omega)]
  have hd := Delete_eq (l := nl s a) (i := i) (by omega) hl
  rcases h4 with rfl | rfl
  · rw [if_pos rfl, show s.l_0 = nl s 0 from rfl, hd]; rfl
  · rw [if_neg (by decide), if_pos rfl, show s.l_1 = nl s 1 from rfl, hd]; rfl
theorem Again_none {s : net_Net} {a i : Int} (h : nget s a i = none ∨ 200 ≤ (nl s a).length) : net_Net_Again s a i = some (false, s) := by
  unfold net_Net_Again
  rw [there_eq, Option.bind_some]
  simp only []
  by_cases hc : 0 ≤ i ∧ i < ((nl s a).length : Int)
  · rw [if_pos (by simpa using hc), NetLen_eq, Option.bind_some, Option.bind_some]
    simp only []
    rcases h with h | h
    · exact absurd hc (nget_none h)
    · rw [if_pos (by simp; omega)]
  · rw [if_neg (by simpa using hc), Option.bind_some]
    simp only []
    rw [if_pos trivial]
theorem Again_some {s : net_Net} {a i : Int} {x : net_bag} (h : nget s a i = some x) (hl : (nl s a).length < 200) : net_Net_Again s a i = some (true, nset s a (nl s a ++ [x])) := by
  obtain ⟨h0, h1, h2, h3, h4⟩ := nget_some h
  unfold net_Net_Again
  rw [there_eq, Option.bind_some]
  simp only []
  rw [if_pos (by simp; omega), NetLen_eq, Option.bind_some, Option.bind_some]
  simp only []
  rw [if_neg (by simp; omega)]
  rcases h4 with rfl | rfl
  · have hl : s.l_0.length < 200 := hl
    rw [if_pos rfl, if_pos ⟨h0, h1⟩, show s.l_0[i.toNat]? = some x from h2, Option.bind_some, if_pos ⟨by unfold fits; rw [List.length_singleton]; omega, by rw [List.length_singleton]; omega⟩]
    rfl
  · have hl : s.l_1.length < 200 := hl
    rw [if_neg (by decide), if_pos rfl, if_pos ⟨h0, h1⟩, show s.l_1[i.toNat]? = some x from h2, Option.bind_some, if_pos ⟨by unfold fits; rw [List.length_singleton]; omega, by rw [List.length_singleton]; omega⟩]
    rfl
theorem Spoil_none {s : net_Net} {a i b : Int} {m : UInt32} (h : nget s a i = none) : net_Net_Spoil s a i b m = some (false, s) := by
  unfold net_Net_Spoil
  rw [there_eq, Option.bind_some]
  simp only []
  rw [if_neg (by have := nget_none h; simpa using this), Option.bind_some]
  simp only []
  rw [if_pos trivial]
theorem New_net : net_New = some ⟨[], []⟩ := rfl
theorem netOk_new : NetOk ⟨[], []⟩ := ⟨fun a => by unfold nl; split <;> (try split) <;> simp, fun a x h => by unfold nl at h; split at h <;> (try split at h) <;> simp at h⟩
theorem Pok_join {n : Int} (h0 : 0 ≤ n) (h1 : n ≤ 65535) : Pok ⟨1, 0, n, 0, 0, [], false, 0, 0⟩ := by unfold Pok; simp; omega
theorem seal_len {p : api_Packet} (h : Pok p) : (sealL (pkL p)).length ≤ 2000 := by
  have := pkL_length (p := p) (by have := h.data; omega)
  rw [sealL_length]; omega
theorem NetOk.put {s : net_Net} (hs : NetOk s) {a : Int} {p : api_Packet} (hp : Pok p) (h : (nl s a).length < 200) : NetOk (nset s a (nl s a ++ [⟨sealL (pkL p), false⟩])) := by
  refine hs.set (by simp; omega) fun x hx => ?_
  rcases List.mem_append.1 hx with hx | hx
  · exact hs.byte a x hx
  · rw [List.mem_singleton.1 hx]
    have := seal_len hp
    show (sealL (pkL p)).length ≤ 1000000
    omega
end Go.Proofs.Ytcfapdamgbbklaa
