/- A logic of owned and of lasting memory: elements that are taken out of a slice of one's own, in place. -/
import Derived.Test.YtcfapdamgbbklaaSj
namespace Go.Proofs.Ytcfapdamgbbklaa
open Go.RowKit
set_option linter.unusedVariables false

theorem sl_one {v : Value} {a : Option Addr} {n c : Nat} (h : v = .slice a n c) : v.oneCell' = true := by rw [h]; rfl
/-- A piece of a slice, as a header. -/
def Cutting (α : Type) [GoT α] (v : Value) (lo hi : Nat) (u : Value) : Prop := ∃ ao n cap, v = .slice ao n cap ∧ lo ≤ hi ∧ hi ≤ cap ∧ u = .slice (if cap = lo then ao else ao.map (·.add (lo * GoT.sz α))) (hi - lo) (cap - lo)
/-- A slice of one's own with so much room. -/
def OVc {α : Type} [GoT α] (E : TypeId) (v : Value) (xs : List α) (m : Nat) : Asn := ⟨fun I h => (OV E v xs).val I h ∧ ∃ a n c, v = .slice a n c ∧ m ≤ c, fun q h => ⟨(OV E v xs).up q h.1, h.2⟩⟩
section
variable {P : Program} {N : Nat} {w0 : World} {ops : Array Oper} {Q : Exit → Act → World → Prop} {l : List Oper} {e : Env} {I : Mem} {G : List Asn} {d : Nat} {t : TypeId} {p : String} {af : Array Edge}
variable {α : Type} [GoT α] {T E : TypeId} {zv : Value} {kb : Nat}
theorem OVc.rd {v : Value} {xs : List α} {m : Nat} (k : Nat) (h : G[k]? = some (OVc E v xs m)) : Rd I G v xs := fun w hw => by
  obtain ⟨m', hm, hv, _⟩ := hw.at h
  rcases hv with hv | ⟨g, off, cap, C, a, b, c, d⟩
  · exact .inl ⟨⟨none, hv.1⟩, hv.2⟩
  · exact .inr ⟨g, off, cap, C, E, (0, 0), a, hm _ _ b, c⟩
theorem WL.ovc {v : Value} {xs : List α} {m : Nat} (k : WL P N w0 ops Q l e I (OV E v xs :: G)) : WL P N w0 ops Q l e I (OVc E v xs m :: G) := WL.conv (H := OV E v xs :: G) (fun w hw => SatW.conv (A := OVc E v xs m) (B := OV E v xs) (fun h q => q.1) hw) k
theorem WX.ovc {x : Exit} {v : Value} {xs : List α} {m : Nat} (k : WX N w0 x Q e I (OV E v xs :: G)) : WX N w0 x Q e I (OVc E v xs m :: G) := WX.conv (H := OV E v xs :: G) (fun w hw => SatW.conv (A := OVc E v xs m) (B := OV E v xs) (fun h q => q.1) hw) k
theorem WX.hdc {x : Exit} {v : Value} {xs : List α} {m : Nat} (k : ∀ ao c, v = .slice ao xs.length c → WX N w0 x Q e I (OVc E v xs m :: G)) : WX N w0 x Q e I (OVc E v xs m :: G) := fun a w ha hx hw => by
  obtain ⟨m', _, hv, _⟩ := hw.at (k := 0) rfl
  obtain ⟨ao, c, h⟩ := OV.hd_of hv
  exact k ao c h a w ha hx hw
/-- The same, said otherwise. -/
theorem WL.is {H : List Asn} (hG : G = H) (h : WL P N w0 ops Q l e I H) : WL P N w0 ops Q l e I G := by subst hG; exact h
theorem ad8 {x y : Operand} {T T' : TypeId} {m n : Int} {a b : UInt8} (hx : ev e x = some (.int .u8 m)) (hy : ev e y = some (.int .u8 n)) (ha : m = (a.toNat : Int)) (hb : n = (b.toNat : Int)) (hd : Nat.blt d N = true) (k : WL P N w0 ops Q l ((d, .int .u8 ((a + b).toNat : Int)) :: e) I G) : WL P N w0 ops Q (⟨some d, .binOp .add T x y T', t, p, af, none⟩ :: l) e I G :=
  ad hx hy hd (by
    subst ha hb
    rw [u8of_wrap]
    have h : u8of ((a.toNat : Int) + (b.toNat : Int)) = a + b := by
      apply UInt8.toNat.inj
      unfold u8of
      rw [UInt8.toNat_add, UInt8.toNat_ofNat']
      omega
    rw [h]; exact k)
/-- 's[i:j:m]', of which nothing is asked. -/
theorem ct3 {x a b c : Operand} {v : Value} {xs : List α} {i j m : Int} (S : ET P T E zv kb α) (hx : ev e x = some v) (hR : Rd I G v xs) (ha : ev e a = some (.int .i64 i)) (hb : ev e b = some (.int .i64 j)) (hc : ev e c = some (.int .i64 m)) (h : 0 ≤ i ∧ i ≤ j ∧ j ≤ m ∧ m ≤ xs.length) (hd : Nat.blt d N = true)
    (k : ∀ u, WL P N w0 ops Q l ((d, u) :: e) I G) : WL P N w0 ops Q (⟨some d, .slice T x (some a) (some b) (some c), t, p, af, none⟩ :: l) e I G := WL.eff hd fun ac w hac _ hw => by
  obtain ⟨ao, cap, rfl, hcap, _⟩ := (hR w hw).head
  obtain ⟨inf, hinf, _, hs, _⟩ := S.parts
  obtain ⟨h0, h1, h2, h3⟩ := h
  obtain ⟨i, rfl⟩ := Int.eq_ofNat_of_zero_le h0
  obtain ⟨j, rfl⟩ := Int.eq_ofNat_of_zero_le (Int.le_trans h0 h1)
  obtain ⟨m, rfl⟩ := Int.eq_ofNat_of_zero_le (Int.le_trans (Int.le_trans h0 h1) h2)
  have hr : (Instr.sliceAt T (.slice ao xs.length cap) (some (.int .i64 (i : Int))) (some (.int .i64 (j : Int))) (some (.int .i64 (m : Int)))).run P w = .ok (.slice (if m = i then ao else ao.map (·.add (i * GoT.sz α))) (j - i) (m - i)) w := by
    have g1 : i ≤ j := by omega
    have g2 : j ≤ m := by omega
    have g3 : m ≤ cap := by omega
    simp [Instr.sliceAt, Instr.slice, Instr.sliceBounds, Instr.sliceBound, asIntOf, run_underlying S.ht, sizeOf, typeInfo, hinf, hs, g1, g2, g3]
  exact ⟨_, w, I, G, by simp only [execOp, hac.ev hx, hac.ev ha, hac.ev hb, hac.ev hc, Option.map_some, Sem.run_bind, hr]; rfl, Ext.refl w, hw, k _⟩
theorem run_ctr {w : World} {v : Value} {xs : List α} {lo hi : Option Value} {l' h' m : Nat} (S : ET P T E zv kb α) (hv : ∃ ao cap, v = .slice ao xs.length cap ∧ m ≤ cap ∧ xs.length ≤ cap) (hlo : lo = none ∧ l' = 0 ∨ lo = some (.int .i64 (l' : Int))) (hhi : hi = none ∧ h' = xs.length ∨ hi = some (.int .i64 (h' : Int))) (h1 : l' ≤ h') (h2 : h' ≤ m) :
    ∃ u, (Instr.sliceAt T v lo hi none).run P w = .ok u w ∧ Cutting α v l' h' u := by
  obtain ⟨ao, cap, rfl, hm, hn⟩ := hv
  obtain ⟨inf, hinf, _, hs, _⟩ := S.parts
  have h3 : h' ≤ cap := by omega
  refine ⟨.slice (if cap = l' then ao else ao.map (·.add (l' * GoT.sz α))) (h' - l') (cap - l'), ?_, ao, _, cap, rfl, h1, h3, rfl⟩
  rcases hlo with ⟨rfl, rfl⟩ | rfl <;> rcases hhi with ⟨rfl, rfl⟩ | rfl <;>
    simp [Instr.sliceAt, Instr.slice, Instr.sliceBounds, Instr.sliceBound, asIntOf, run_underlying S.ht, sizeOf, typeInfo, hinf, hs, h1, h3]
/-- A piece of a slice of one's own, its header. -/
theorem ctr {x : Operand} {v : Value} {xs : List α} {lo hi : Option Operand} {l' h' : Int} {E' : TypeId} (kk : Nat) (S : ET P T E zv kb α) (hx : ev e x = some v) (hk : G[kk]? = some (OV E' v xs))
    (hlo : lo = none ∧ l' = 0 ∨ ∃ o, lo = some o ∧ ev e o = some (.int .i64 l')) (hhi : hi = none ∧ h' = xs.length ∨ ∃ o, hi = some o ∧ ev e o = some (.int .i64 h')) (hc : 0 ≤ l' ∧ l' ≤ h' ∧ h' ≤ xs.length) (hd : Nat.blt d N = true)
    (k : ∀ u, Cutting α v l'.toNat h'.toNat u → WL P N w0 ops Q l ((d, u) :: e) I G) : WL P N w0 ops Q (⟨some d, .slice T x lo hi none, t, p, af, none⟩ :: l) e I G := WL.eff hd fun ac w ha _ hw => by
  obtain ⟨h0, h1, h2⟩ := hc
  have hv : ∃ ao cap, v = .slice ao xs.length cap ∧ xs.length ≤ cap ∧ xs.length ≤ cap := by
    obtain ⟨ao, cap, e1, e2, _⟩ := ((OV.rd kk hk : Rd I G v xs) w hw).head
    exact ⟨ao, cap, e1, e2, e2⟩
  obtain ⟨u, hr, hu⟩ := run_ctr (w := w) (lo := lo.map ac.eval) (hi := hi.map ac.eval) (l' := l'.toNat) (h' := h'.toNat) S hv
    (by rcases hlo with ⟨rfl, rfl⟩ | ⟨o, rfl, h⟩
        · exact .inl ⟨rfl, rfl⟩
        · exact .inr (by rw [Option.map_some, ha.ev h, Int.toNat_of_nonneg h0]))
    (by rcases hhi with ⟨rfl, rfl⟩ | ⟨o, rfl, h⟩
        · exact .inl ⟨rfl, by simp⟩
        · exact .inr (by rw [Option.map_some, ha.ev h, Int.toNat_of_nonneg (Int.le_trans h0 h1)])) (by omega) (by omega)
  exact ⟨u, w, I, G, by simp only [execOp, ha.ev hx, Option.map_none, Sem.run_bind, hr]; rfl, Ext.refl w, hw, k u hu⟩
theorem ctrc {x : Operand} {v : Value} {xs : List α} {lo hi : Option Operand} {l' h' : Int} {m : Nat} {E' : TypeId} (kk : Nat) (S : ET P T E zv kb α) (hx : ev e x = some v) (hk : G[kk]? = some (OVc E' v xs m))
    (hlo : lo = none ∧ l' = 0 ∨ ∃ o, lo = some o ∧ ev e o = some (.int .i64 l')) (hhi : hi = none ∧ h' = xs.length ∨ ∃ o, hi = some o ∧ ev e o = some (.int .i64 h')) (hc : 0 ≤ l' ∧ l' ≤ h' ∧ h' ≤ m) (hd : Nat.blt d N = true)
    (k : ∀ u, Cutting α v l'.toNat h'.toNat u → WL P N w0 ops Q l ((d, u) :: e) I G) : WL P N w0 ops Q (⟨some d, .slice T x lo hi none, t, p, af, none⟩ :: l) e I G := WL.eff hd fun ac w ha _ hw => by
  obtain ⟨h0, h1, h2⟩ := hc
  have hv : ∃ ao cap, v = .slice ao xs.length cap ∧ m ≤ cap ∧ xs.length ≤ cap := by
    obtain ⟨m', _, hv, a, n, c, e1, e2⟩ := hw.at hk
    obtain ⟨ao, cap, e3, e4, _⟩ := ((OVc.rd kk hk : Rd I G v xs) w hw).head
    rw [e1] at e3
    injection e3 with e5 e6 e7
    exact ⟨ao, cap, by rw [e1, e5, e6, e7], by omega, e4⟩
  obtain ⟨u, hr, hu⟩ := run_ctr (w := w) (lo := lo.map ac.eval) (hi := hi.map ac.eval) (l' := l'.toNat) (h' := h'.toNat) S hv
    (by rcases hlo with ⟨rfl, rfl⟩ | ⟨o, rfl, h⟩
        · exact .inl ⟨rfl, rfl⟩
        · exact .inr (by rw [Option.map_some, ha.ev h, Int.toNat_of_nonneg h0]))
    (by rcases hhi with ⟨rfl, rfl⟩ | ⟨o, rfl, h⟩
        · exact .inl ⟨rfl, by simp⟩
        · exact .inr (by rw [Option.map_some, ha.ev h, Int.toNat_of_nonneg (Int.le_trans h0 h1)])) (by omega) (by omega)
  exact ⟨u, w, I, G, by simp only [execOp, ha.ev hx, Option.map_none, Sem.run_bind, hr]; rfl, Ext.refl w, hw, k u hu⟩
theorem cut_at {w : World} {g off o : Nat} {C : Array Value} {F : TypeId} {fr : Nat × Nat} {pre cs sp : List Value} (hg : w.heap[g]? = some (.cells C F fr)) (hc : C.toList.drop off = pre ++ (cs ++ sp)) (ho : o = off + pre.length) : ∀ j u, cs[j]? = some u → w.cell? ((⟨g, o, none⟩ : Addr).add j) = some u := fun j u hj => by
  subst ho
  have e : C[off + pre.length + j]? = some u := by
    have h3 : (C.toList.drop off)[pre.length + j]? = some u := by
      rw [hc, List.getElem?_append_right (by omega), Nat.add_sub_cancel_left, List.getElem?_append_left (List.getElem?_eq_some_iff.1 hj).1]; exact hj
    rw [List.getElem?_drop, ← Nat.add_assoc] at h3
    simpa using h3
  rw [Addr.add_lit]
  simp [World.cell?, hg, e]
/-- 'append(s[:i], s[j:]...)', in place. -/
theorem apd {x y : Operand} {v u1 u2 : Value} {xs : List α} {i j n : Nat} (S : ET P T E zv kb α) (hx : ev e x = some u1) (hy : ev e y = some u2) (h1 : Cutting α v 0 i u1) (h2 : Cutting α v j n u2) (h : i < j ∧ j ≤ n ∧ n = xs.length ∧ xs.length ≤ 140737488355328) (hd : Nat.blt d N = true)
    (k : ∀ r, WL P N w0 ops Q l ((d, r) :: e) I (OVc E r (xs.take i ++ xs.drop j) n :: G)) :
    WL P N w0 ops Q (⟨some d, .call { callee := .builtin .append, args := #[x, y], argTypes := #[T, T] }, t, p, af, none⟩ :: l) e I (OV E v xs :: G) := WL.eff hd fun a w ha _ hw => by
  obtain ⟨hij, hjn, rfl, hbig⟩ := h
  obtain ⟨inf, hinf, hz0, hz1, hz2⟩ := S.parts
  have hsz := GoT.pos (α := α)
  rcases hw.open_ov with ⟨rfl, rfl⟩ | ⟨g, off, cap, C, rfl, hsat, ⟨cs, sp, c1, c2, c3, c4, c5⟩, hC⟩
  · simp at hjn; omega
  · obtain ⟨ao, n0, cp, e1, _, q1, rfl⟩ := h1
    injection e1 with e11 e12 e13
    subst e11 e12 e13
    obtain ⟨ao, n0, cp, e2, _, q2, rfl⟩ := h2
    injection e2 with e21 e22 e23
    subst e21 e22 e23
    have hgw := hsat.own_at
    have hcl := c2.len
    have hmj : j * GoT.sz α ≤ xs.length * GoT.sz α := Nat.mul_le_mul_right _ hjn
    have hmi : i * GoT.sz α ≤ j * GoT.sz α := Nat.mul_le_mul_right _ (by omega)
    have hcap : xs.length * GoT.sz α ≤ cap * GoT.sz α := Nat.mul_le_mul_right _ c4
    have hcs : cs.length + sp.length = C.size - off := by have := congrArg List.length c1; simpa using this.symm
    have hnl : (cs.drop (j * GoT.sz α)).length = (xs.length - j) * GoT.sz α := by rw [List.length_drop, hcl, Nat.sub_mul]
    have hnew : (Builtin.firstCells inf.size (xs.length - j) (.slice (if cap = j then some ⟨g, off, none⟩ else (some (⟨g, off, none⟩ : Addr)).map (·.add (j * GoT.sz α))) (xs.length - j) (cap - j))).run P w = .ok (cs.drop (j * GoT.sz α)).toArray w := by
      by_cases hj : xs.length = j
      · have e0 : cs.drop (j * GoT.sz α) = [] := List.eq_nil_of_length_eq_zero (by rw [hnl, hj]; simp)
        rw [e0, hj]
        split <;> simp [Builtin.firstCells, loadCells, loadCellsFrom]
      · rw [if_neg (by omega), Option.map_some, Addr.add_lit]
        refine run_firstCells_some (P := P) w inf.size (xs.length - j) ⟨g, off + j * GoT.sz α, none⟩ _ _ _ (by rw [hnl, hz1]) ?_
        refine cut_at (off := off) (pre := cs.take (j * GoT.sz α)) hgw (by rw [c1, ← List.append_assoc, List.take_append_drop]) ?_
        rw [List.length_take]; omega
    have hstore : ∀ m ∈ cs.drop (j * GoT.sz α), m.oneCell' = true := fun m hm => c2.one m (List.mem_of_mem_drop hm)
    have hst := run_storeCells_at P g (off + i * inf.size) E (cs.drop (j * GoT.sz α)) 0 C w hgw (by
      rw [hz1, hnl, Nat.sub_mul]; omega) hstore
    simp only [Nat.add_zero] at hst
    have e10 : (if cap = 0 then some (⟨g, off, none⟩ : Addr) else (some (⟨g, off, none⟩ : Addr)).map (·.add (0 * GoT.sz α))) = some ⟨g, off, none⟩ := by
      split
      · rfl
      · simp [Addr.add]
    have hyl : (xs.take i ++ xs.drop j).length = i + (xs.length - j) := by rw [List.length_append, List.length_take, List.length_drop]; omega
    rw [e10, Nat.sub_zero, Nat.sub_zero] at hx
    generalize (if cap = j then some (⟨g, off, none⟩ : Addr) else (some (⟨g, off, none⟩ : Addr)).map (·.add (j * GoT.sz α))) = A2 at hy hnew
    have hr : (Builtin.append_ #[T, T] t #[.slice (some ⟨g, off, none⟩) i cap, .slice A2 (xs.length - j) (cap - j)]).run P w =
        .ok (.slice (some ⟨g, off, none⟩) (i + (xs.length - j)) cap) (w.setRow g (C.toList.take (off + i * inf.size) ++ cs.drop (j * GoT.sz α) ++ C.toList.drop (off + i * inf.size + (cs.drop (j * GoT.sz α)).length)).toArray) := by
      have hroom : i + (xs.length - j) ≤ cap := by omega
      simp [Builtin.append_, Builtin.lenOf, run_underlying S.ht, sizeOf, typeInfo, hinf, hroom, hnew, Addr.add_lit, hst]
    rw [hz1] at hr
    generalize hW : w.setRow g (C.toList.take (off + i * GoT.sz α) ++ cs.drop (j * GoT.sz α) ++ C.toList.drop (off + i * GoT.sz α + (cs.drop (j * GoT.sz α)).length)).toArray = w' at hr
    refine ⟨.slice (some ⟨g, off, none⟩) (i + (xs.length - j)) cap, w', I, OVc E (.slice (some ⟨g, off, none⟩) (i + (xs.length - j)) cap) (xs.take i ++ xs.drop j) xs.length :: G, (by simp only [execOp, resolve, invoke, builtin, List.map_toArray, List.map_cons, List.map_nil, ha.ev hx, ha.ev hy]; simp [hr]), by subst hW; exact ⟨rfl, rfl, rfl, by simp⟩, ?_, k _⟩
    subst hW
    have hs2 := hsat.row (C' := (C.toList.take (off + i * GoT.sz α) ++ cs.drop (j * GoT.sz α) ++ C.toList.drop (off + i * GoT.sz α + (cs.drop (j * GoT.sz α)).length)).toArray)
    have htk : (C.toList.take (off + i * GoT.sz α)).length = off + i * GoT.sz α := by
      rw [List.length_take, Array.length_toList (xs := C)]; exact Nat.min_eq_left (by omega)
    have h := hs2.shut_ov (xs := xs.take i ++ xs.drop j) (off := off) (cap := cap)
      ⟨cs.take (i * GoT.sz α) ++ cs.drop (j * GoT.sz α), C.toList.drop (off + i * GoT.sz α + (cs.drop (j * GoT.sz α)).length), by
        have e3 : (C.toList.drop off).take (i * GoT.sz α) = cs.take (i * GoT.sz α) := by
          rw [c1, List.take_append_of_le_length (by omega)]
        rw [List.append_assoc, List.drop_append_of_le_length (by rw [htk]; omega), List.drop_take, Nat.add_sub_cancel_left, e3, List.append_assoc], (c2.drop j).append (c2.take i), by simp; omega, by rw [hyl]; omega, c5⟩
      (by simp only [List.size_toArray, List.length_append, htk, hnl, List.length_drop, Array.length_toList, Nat.sub_mul]; omega)
    rw [hyl] at h
    exact h.conv fun hh q => ⟨q, _, _, _, rfl, c4⟩
theorem WL.act2 {op : Op} (h : ∀ a w, Good N e a → Ext w0 w → SatW w I G → ∃ v w' J G', (execOp a.eval ⟨none, op, t, p, af, none⟩).run P w = .ok (.value v) w' ∧ Ext w w' ∧ SatW w' J G' ∧ WL P N w0 ops Q l e J G') :
    WL P N w0 ops Q (⟨none, op, t, p, af, none⟩ :: l) e I G := fun a w ha hx hw => by
  obtain ⟨v, w', J, G', hr, hx', hw', k⟩ := h a w ha hx hw
  unfold wpList
  rw [if_pos (by simp [Region.wanted])]
  refine .inl ?_
  unfold Oper.wp
  rw [hr]
  exact k _ _ (ha.put_none _) (hx.trans hx') hw'
/-- 'clear(s[n:m])', behind what there is. -/
theorem clr {x : Operand} {v u : Value} {xs : List α} {n m : Nat} (S : ET P T E zv kb α) (hx : ev e x = some u) (h1 : Cutting α v n m u) (hn : n = xs.length) (hz : ∀ c ∈ zv.cells.toList, c.oneCell' = true) (k : WL P N w0 ops Q l e I (OV E v xs :: G)) {m' : Nat} :
    WL P N w0 ops Q (⟨none, .call { callee := .builtin .clear, args := #[x], argTypes := #[T] }, t, p, af, none⟩ :: l) e I (OVc E v xs m' :: G) := WL.act2 fun a w ha _ hw => by
  subst hn
  have hw : SatW w I (OV E v xs :: G) := SatW.conv (A := OVc E v xs m') (fun h q => q.1) hw
  obtain ⟨inf, hinf, hz0, hz1, hz2⟩ := S.parts
  have hzs := S.hz
  obtain ⟨ao, n0, cp, rfl, q0, q1, rfl⟩ := h1
  by_cases h0 : m - xs.length = 0
  · refine ⟨.tuple #[], w, I, _, ?_, Ext.refl w, hw, k⟩
    rw [h0] at hx
    have hr : (Builtin.clear_ #[T] t #[.slice (if cp = xs.length then ao else ao.map (·.add (xs.length * GoT.sz α))) 0 (cp - xs.length)]).run P w = .ok (.tuple #[]) w := by
      cases ao <;> (split <;> simp [Builtin.clear_, run_underlying S.ht])
    simp only [execOp, resolve, invoke, builtin, List.map_toArray, List.map_cons, List.map_nil, ha.ev hx]
    generalize (if cp = xs.length then ao else ao.map (·.add (xs.length * GoT.sz α))) = A2 at hr ⊢
    simp [hr]
  · rcases hw.open_ov with ⟨e, rfl⟩ | ⟨g, off, cap, C, e, hsat, ⟨cs, sp, c1, c2, c3, c4, c5⟩, hC⟩
    · injection e with e1 e2 e3
      subst e3; omega
    · injection e with e1 e2 e3
      subst e1 e2 e3
      have hgw := hsat.own_at
      have hcl := c2.len
      have hcs : cs.length + sp.length = C.size - off := by have := congrArg List.length c1; simpa using this.symm
      have hm : m * GoT.sz α ≤ cp * GoT.sz α := Nat.mul_le_mul_right _ q1
      have hxm : xs.length * GoT.sz α ≤ m * GoT.sz α := Nat.mul_le_mul_right _ q0
      have hzl : (Builtin.zeroCells zv.cells (m - xs.length)).toList.length = (m - xs.length) * GoT.sz α := by rw [Array.length_toList, size_zeroCells, hzs]
      have hone : ∀ c ∈ (Builtin.zeroCells zv.cells (m - xs.length)).toList, c.oneCell' = true := fun c hc => by
        simp only [Builtin.zeroCells, Array.toList_map, List.mem_map] at hc
        obtain ⟨q, _, rfl⟩ := hc
        have hpos := GoT.pos (α := α)
        have hl : q % zv.cells.size < zv.cells.size := Nat.mod_lt _ (by omega)
        rw [getElem!_pos zv.cells _ hl]
        exact hz _ (by simp)
      have hst := run_storeCells_at P g (off + xs.length * GoT.sz α) E _ 0 C w hgw (by rw [hzl, Nat.sub_mul]; omega) hone
      simp only [Nat.add_zero] at hst
      have hr : (Builtin.clear_ #[T] t #[.slice (if cp = xs.length then some ⟨g, off, none⟩ else (some (⟨g, off, none⟩ : Addr)).map (·.add (xs.length * GoT.sz α))) (m - xs.length) (cp - xs.length)]).run P w =
          .ok (.tuple #[]) (w.setRow g (C.toList.take (off + xs.length * GoT.sz α) ++ (Builtin.zeroCells zv.cells (m - xs.length)).toList ++ C.toList.drop (off + xs.length * GoT.sz α + (Builtin.zeroCells zv.cells (m - xs.length)).toList.length)).toArray) := by
        rw [if_neg (by omega), Option.map_some, Addr.add_lit]
        obtain ⟨q, hq⟩ : ∃ q, m - xs.length = q + 1 := ⟨m - xs.length - 1, by omega⟩
        rw [hq] at hst ⊢
        simp [Builtin.clear_, run_underlying S.ht, zeroValue, typeInfo, hinf, hz0, hst]
      refine ⟨.tuple #[], w.setRow g (C.toList.take (off + xs.length * GoT.sz α) ++ (Builtin.zeroCells zv.cells (m - xs.length)).toList ++ C.toList.drop (off + xs.length * GoT.sz α + (Builtin.zeroCells zv.cells (m - xs.length)).toList.length)).toArray, I, OV E (.slice (some ⟨g, off, none⟩) xs.length cp) xs :: G, ?_, ⟨rfl, rfl, rfl, by simp⟩, ?_, k⟩
      · simp only [execOp, resolve, invoke, builtin, List.map_toArray, List.map_cons, List.map_nil, ha.ev hx]
        generalize (if cp = xs.length then some (⟨g, off, none⟩ : Addr) else (some (⟨g, off, none⟩ : Addr)).map (·.add (xs.length * GoT.sz α))) = A2 at hr ⊢
        simp [hr]
      · have hs2 := hsat.row (C' := (C.toList.take (off + xs.length * GoT.sz α) ++ (Builtin.zeroCells zv.cells (m - xs.length)).toList ++ C.toList.drop (off + xs.length * GoT.sz α + (Builtin.zeroCells zv.cells (m - xs.length)).toList.length)).toArray)
        have htk : (C.toList.take (off + xs.length * GoT.sz α)).length = off + xs.length * GoT.sz α := by
          rw [List.length_take, Array.length_toList (xs := C)]; exact Nat.min_eq_left (by omega)
        refine hs2.shut_ov (xs := xs) (off := off) (cap := cp)
          ⟨cs, (Builtin.zeroCells zv.cells (m - xs.length)).toList ++ C.toList.drop (off + xs.length * GoT.sz α + (Builtin.zeroCells zv.cells (m - xs.length)).toList.length), by
            have e3 : (C.toList.drop off).take (xs.length * GoT.sz α) = cs := by rw [c1, ← hcl, List.take_left]
            rw [List.append_assoc, List.drop_append_of_le_length (by rw [htk]; omega), List.drop_take, Nat.add_sub_cancel_left, e3], c2, by simp; omega, c4, c5⟩ ?_
        simp only [List.size_toArray, List.length_append, htk, hzl, List.length_drop, Array.length_toList, Nat.sub_mul]; omega
end
end Go.Proofs.Ytcfapdamgbbklaa
