/- A logic of owned and of lasting memory: slices; calls; the end of a function. -/
import Derived.Test.YtcfapdamgbbklaaSd
namespace Go.Proofs.Ytcfapdamgbbklaa
set_option linter.unusedVariables false

section
variable {α : Type} [GoT α]
/-- An address of lasting data. -/
def IP (I : Mem) (v : Value) (x : α) : Prop := ∃ g o C E fr cs sp, v = .pointer (some ⟨g, o, none⟩) ∧ I g = some (.cells C E fr) ∧ C.toList.drop o = cs ++ sp ∧ GoT.rep I cs x
theorem IP.up {I J : Mem} {v : Value} {x : α} (h : Mem.le I J) : IP I v x → IP J v x := fun ⟨g, o, C, E, fr, cs, sp, a, b, c, d⟩ => ⟨g, o, C, E, fr, cs, sp, a, h _ _ b, c, GoT.up h d⟩
/-- An address of element i of a slice. -/
def At (α : Type) [GoT α] (v : Value) (i : Nat) (u : Value) : Prop := ∃ g off n cap, v = .slice (some ⟨g, off, none⟩) n cap ∧ u = .pointer (some ⟨g, off + i * GoT.sz α, none⟩)
theorem IV.ip {I : Mem} {v : Value} {xs : List α} {i : Nat} {x : α} (h : IV I v xs) (hx : xs[i]? = some x) : ∃ a cap, v = .slice (some a) xs.length cap ∧ a.spot = none ∧ IP I (.pointer (some ⟨a.block, a.off + i * GoT.sz α, none⟩)) x := by
  rcases h with ⟨_, rfl⟩ | ⟨g, off, cap, C, E, fr, rfl, b, cs, sp, c, d, f, h1, h2⟩
  · simp at hx
  · obtain ⟨c0, c1, c2, e, e2, e3⟩ := d.get hx
    refine ⟨_, cap, rfl, rfl, g, off + i * GoT.sz α, C, E, fr, c1, c2 ++ sp, rfl, b, ?_, e3⟩
    rw [← List.drop_drop, c, e, ← e2]
    simp
end
section
variable {P : Program} {N : Nat} {w0 : World} {ops : Array Oper} {Q : Exit → Act → World → Prop} {l : List Oper} {e : Env} {I : Mem} {G : List Asn} {d : Nat} {t : TypeId} {p : String} {af : Array Edge}
section
variable {α : Type} [GoT α] {T E : TypeId} {zv : Value} {kb : Nat}

theorem ln {x : Operand} {v : Value} {xs : List α} (S : ET P T E zv kb α) (hx : ev e x = some v) (hR : Rd I G v xs) (hd : Nat.blt d N = true) (k : WL P N w0 ops Q l ((d, .int .i64 (xs.length : Int)) :: e) I G) :
    WL P N w0 ops Q (⟨some d, .call { callee := .builtin .len, args := #[x], argTypes := #[T] }, t, p, af, none⟩ :: l) e I G :=
  WL.rd hd (fun a w ha hw => by
    obtain ⟨ao, c, rfl, _⟩ := (hR w hw).head
    simp [execOp, resolve, invoke, builtin, Builtin.len_, ha.ev hx, run_underlying S.ht, goInt]) k
theorem run_index {w : World} (S : ET P T E zv kb α) {ao : Option Addr} {a : Addr} {n c : Nat} {i : Int} {ki : IntKind} (ha : ao = some a) (h0 : 0 ≤ i) (hi : i < n) : (Instr.indexAt T (.slice ao n c) (.int ki i)).run P w = .ok (.pointer (some (a.add (i.toNat * GoT.sz α)))) w := by
  subst ha
  obtain ⟨inf, hinf, _, h1, _⟩ := S.parts
  simp [Instr.indexAt, asIntOf, run_underlying S.ht, h0, hi, sizeOf, typeInfo, hinf, h1]
/-- The address of an element of a lasting slice. -/
theorem ixi {x y : Operand} {v : Value} {xs : List α} {i : Int} {ki : IntKind} {z : α} (S : ET P T E zv kb α) (hx : ev e x = some v) (hy : ev e y = some (.int ki i)) (hv : IV I v xs) (hz : idx xs i = some z) (hd : Nat.blt d N = true)
    (k : ∀ u, IP I u z → WL P N w0 ops Q l ((d, u) :: e) I G) : WL P N w0 ops Q (⟨some d, .indexAddr T x y, t, p, af, none⟩ :: l) e I G := by
  obtain ⟨h0, h1, h2⟩ := idx_some hz
  obtain ⟨a, cap, rfl, hs, hip⟩ := hv.ip h2
  refine WL.rd hd (fun ac w ha hw => ?_) (k _ hip)
  have hr := run_index (w := w) (c := cap) (ki := ki) S (rfl : some a = some a) h0 (show i < (xs.length : Int) by omega)
  obtain ⟨b, o, s⟩ := a
  simp only at hs
  subst hs
  simp only [execOp, ha.ev hx, ha.ev hy, Sem.run_bind, hr, Addr.add_lit]
  rfl
/-- The address of an element of a slice of one's own. -/
theorem ixo {x y : Operand} {v : Value} {xs : List α} {i : Int} {ki : IntKind} {F : TypeId} (kk : Nat) (S : ET P T E zv kb α) (hx : ev e x = some v) (hy : ev e y = some (.int ki i)) (hk : G[kk]? = some (OV F v xs)) (h0 : 0 ≤ i ∧ i < xs.length) (hd : Nat.blt d N = true)
    (k : ∀ u, At α v i.toNat u → WL P N w0 ops Q l ((d, u) :: e) I G) : WL P N w0 ops Q (⟨some d, .indexAddr T x y, t, p, af, none⟩ :: l) e I G :=
  WL.eff hd fun ac w ha _ hw => by
    obtain ⟨m, _, hv⟩ := hw.at hk
    rcases hv with ⟨_, rfl⟩ | ⟨g, off, cap, C, rfl, b, c⟩
    · simp at h0; omega
    · have hr := run_index (w := w) (c := cap) (ki := ki) S (rfl : some (⟨g, off, none⟩ : Addr) = some _) h0.1 h0.2
      rw [Addr.add_lit] at hr
      refine ⟨_, w, I, G, ?_, Ext.refl w, hw, k _ ⟨g, off, _, cap, rfl, rfl⟩⟩
      simp only [execOp, ha.ev hx, ha.ev hy, Sem.run_bind, hr]
      rfl
theorem run_ldT {w : World} {F : TypeId} {g o : Nat} {C : Array Value} {E' : TypeId} {fr : Nat × Nat} {cs sp : List Value} {x : α} (hF : (if GoT.agg α then YA P F (GoT.sz α) else NA P F)) (hg : w.heap[g]? = some (.cells C E' fr)) (hc : C.toList.drop o = cs ++ sp) (hr : GoT.rep I cs x) :
    ∃ v, (Instr.loadAt F (.pointer (some ⟨g, o, none⟩))).run P w = .ok v w ∧ Rv I v x := by
  have hcell : ∀ j u, cs[j]? = some u → w.cell? ((⟨g, o, none⟩ : Addr).add j) = some u := fun j u hj => by
    rw [Addr.add_lit]
    refine cell_of hg ?_
    have h3 : (C.toList.drop o)[j]? = some u := by rw [hc, List.getElem?_append_left (List.getElem?_eq_some_iff.1 hj).1]; exact hj
    simpa [List.getElem?_drop] using h3
  cases ha : GoT.agg α with
  | true =>
    rw [ha] at hF
    exact ⟨_, run_loadn hF (GoT.len hr) hcell, cs, hr, by rw [ha]; rfl⟩
  | false =>
    rw [ha] at hF
    have hl := GoT.len hr
    rw [GoT.one1 ha] at hl
    match cs, hl, hr, hcell with
    | [u], _, hr, hcell => exact ⟨u, run_load1 hF (hcell 0 u rfl), [u], hr, by rw [ha]; rfl⟩
/-- A load of lasting data. -/
theorem ldi {x : Operand} {v : Value} {z : α} {F : TypeId} (hF : (if GoT.agg α then YA P F (GoT.sz α) else NA P F)) (hx : ev e x = some v) (hv : IP I v z) (hd : Nat.blt d N = true) (k : ∀ u, Rv I u z → WL P N w0 ops Q l ((d, u) :: e) I G) :
    WL P N w0 ops Q (⟨some d, .load F x, t, p, af, none⟩ :: l) e I G := WL.eff hd fun ac w ha _ hw => by
  obtain ⟨g, o, C, E, fr, cs, sp, rfl, b, c, f⟩ := hv
  obtain ⟨u, hr, hu⟩ := run_ldT (P := P) hF (hw.imm b) c f
  exact ⟨u, w, I, G, by simp only [execOp, ha.ev hx, Sem.run_bind, hr]; rfl, Ext.refl w, hw, k u hu⟩
/-- A load out of a slice of one's own. -/
theorem ldo {x : Operand} {v u : Value} {xs : List α} {i : Nat} {z : α} {F E' : TypeId} (kk : Nat) (hF : (if GoT.agg α then YA P F (GoT.sz α) else NA P F)) (hx : ev e x = some u) (hu : At α v i u) (hk : G[kk]? = some (OV E' v xs)) (hz : xs[i]? = some z) (hd : Nat.blt d N = true) (k : ∀ r, Rv I r z → WL P N w0 ops Q l ((d, r) :: e) I G) :
    WL P N w0 ops Q (⟨some d, .load F x, t, p, af, none⟩ :: l) e I G := WL.eff hd fun ac w ha _ hw => by
  obtain ⟨m, hm, hv⟩ := hw.at hk
  obtain ⟨g, off, n, cap, rfl, rfl⟩ := hu
  rcases hv with ⟨h, _⟩ | ⟨g', off', cap', C, h, b, ⟨cs, sp, c1, c2, c3⟩, c⟩
  · cases h
  · injection h with h _ _
    injection h with h
    injection h with h h' _
    subst h h'
    obtain ⟨c0, c4, c5, e, e2, e3⟩ := c2.get hz
    obtain ⟨r, hr, hrv⟩ := run_ldT (P := P) (o := off + i * GoT.sz α) (cs := c4) (sp := c5 ++ sp) hF (hm _ _ b) (by rw [← List.drop_drop, c1, e, ← e2]; simp) e3
    exact ⟨r, w, I, G, by simp only [execOp, ha.ev hx, Sem.run_bind, hr]; rfl, Ext.refl w, hw, k r hrv⟩
/-- A store into a slice of one's own. -/
theorem sto {x y : Operand} {v u r : Value} {xs : List α} {i : Nat} {z : α} {F E' : TypeId} (hF : SZ P F (GoT.sz α)) (hx : ev e x = some u) (hy : ev e y = some r) (hu : At α v i u) (hi : i < xs.length) (hr : Rv I r z) (k : WL P N w0 ops Q l e I (OV E' v (xs.set i z) :: G)) :
    WL P N w0 ops Q (⟨none, .store F x y, t, p, af, none⟩ :: l) e I (OV E' v xs :: G) := WL.act fun ac w ha _ hw => by
  obtain ⟨g, off, n, cap, rfl, rfl⟩ := hu
  rcases hw.open_ov with ⟨h, _⟩ | ⟨g', off', cap', C, h, b, ⟨cs, sp, c1, c2, c3, c4, c5⟩, c⟩
  · cases h
  · injection h with h hn hc
    injection h with h
    injection h with h h' _
    subst h h' hn hc
    have hrc := hr.cells
    have hlen := GoT.len hrc
    have hl2 := c2.len
    have htot : cs.length + sp.length = C.size - off := by have := congrArg List.length c1; simpa using this.symm
    have hmul : (i + 1) * GoT.sz α ≤ xs.length * GoT.sz α := Nat.mul_le_mul_right _ hi
    rw [Nat.add_mul, Nat.one_mul] at hmul
    have hst := run_storeCells_at P g (off + i * GoT.sz α) E' r.cells.toList 0 C w b.own_at (by rw [hlen]; omega) (GoT.one hrc)
    rw [Nat.add_zero, hlen] at hst
    have hsz : r.cells.size = GoT.sz α := by rw [← hlen]; simp
    refine ⟨w.setRow g (C.toList.take (off + i * GoT.sz α) ++ r.cells.toList ++ C.toList.drop (off + i * GoT.sz α + GoT.sz α)).toArray, I, OV E' (.slice (some ⟨g, off, none⟩) xs.length cap) (xs.set i z) :: G, by simp [execOp, ha.ev hx, ha.ev hy, Instr.storeAt, Instr.sureAddr, storeVar, hF w, hsz, hst, -List.append_assoc], ⟨rfl, rfl, rfl, by simp⟩, ?_, k⟩
    have hpre : (C.toList.take (off + i * GoT.sz α)).length = off + i * GoT.sz α := by rw [List.length_take, Array.length_toList (xs := C)]; exact Nat.min_eq_left (by omega)
    have h := (b.row (C' := (C.toList.take (off + i * GoT.sz α) ++ r.cells.toList ++ C.toList.drop (off + i * GoT.sz α + GoT.sz α)).toArray)).shut_ov (xs := xs.set i z) (off := off) (cap := cap)
      ⟨cs.take (i * GoT.sz α) ++ r.cells.toList ++ cs.drop ((i + 1) * GoT.sz α), sp, by
        rw [List.append_assoc, List.drop_append_of_le_length (by rw [hpre]; omega), List.drop_take, Nat.add_sub_cancel_left, c1]
        rw [List.take_append_of_le_length (by omega)]
        have : C.toList.drop (off + i * GoT.sz α + GoT.sz α) = cs.drop ((i + 1) * GoT.sz α) ++ sp := by
          rw [Nat.add_assoc, ← List.drop_drop, c1, Nat.add_mul, Nat.one_mul, List.drop_append_of_le_length (by omega)]
        rw [this]
        simp, c2.set hi hrc, by simp; omega, by simpa using c4, c5⟩ (by simp only [List.size_toArray, List.length_append, hpre, hlen, List.length_drop, Array.length_toList]; omega)
    rw [List.length_set] at h
    exact h
end
section
variable {α : Type} [GoT α] {T E : TypeId} {zv : Value} {kb : Nat}
theorem sto2 {x y : Operand} {ao : Option Addr} {cp : Nat} {u r : Value} {xs ys : List α} {i : Nat} {z : α} {F E' : TypeId} (hF : SZ P F (GoT.sz α)) (hx : ev e x = some u) (hy : ev e y = some r) (hu : At α (.slice ao xs.length cp) i u) (hi : i < xs.length) (hr : Rv I r z) (hs : xs.set i z = ys) (k : WL P N w0 ops Q l e I (OV E' (.slice ao ys.length cp) ys :: G)) :
    WL P N w0 ops Q (⟨none, .store F x y, t, p, af, none⟩ :: l) e I (OV E' (.slice ao xs.length cp) xs :: G) :=
  sto hF hx hy hu hi hr (by subst hs; rw [List.length_set] at k; exact k)
/-- 's[lo:hi]'. -/
theorem run_cut {w : World} (S : ET P T E zv kb α) (ao : Option Addr) (n c : Nat) (lo hi : Option Int) (kl kh : IntKind) (l h : Nat) (hl : lo = none ∧ l = 0 ∨ lo = some (l : Int)) (hh : hi = none ∧ h = n ∨ hi = some (h : Int)) (h1 : l ≤ h) (h2 : h ≤ n) (h3 : n ≤ c) :
    (Instr.sliceAt T (.slice ao n c) (lo.map (.int kl)) (hi.map (.int kh)) none).run P w = .ok (.slice (if c = l then ao else ao.map (·.add (l * GoT.sz α))) (h - l) (c - l)) w := by
  obtain ⟨inf, hinf, _, hs, _⟩ := S.parts
  have hh2 : h ≤ c := by omega
  rcases hl with ⟨rfl, rfl⟩ | rfl <;> rcases hh with ⟨rfl, rfl⟩ | rfl <;>
    simp [Instr.sliceAt, Instr.slice, Instr.sliceBounds, Instr.sliceBound, asIntOf, run_underlying S.ht, sizeOf, typeInfo, hinf, hs, h1, hh2]
theorem Sl.cut {I : Mem} {C : Array Value} {off cap : Nat} {xs : List α} (h : Sl I C off cap xs) {l r : Nat} (h1 : l ≤ r) (h2 : r ≤ xs.length) (hC : off + l * GoT.sz α ≤ C.size) : Sl I C (if cap = l then off else off + l * GoT.sz α) (cap - l) ((xs.take r).drop l) := by
  obtain ⟨cs, sp, c1, c2, c3, c4, c5⟩ := h
  split
  · rename_i hc
    have e : (xs.take r).drop l = [] := List.drop_eq_nil_of_le (by rw [List.length_take]; omega)
    rw [e]
    exact ⟨[], cs ++ sp, by rw [c1]; rfl, rfl, c3, Nat.zero_le _, by omega⟩
  · refine ⟨(cs.take (r * GoT.sz α)).drop (l * GoT.sz α), cs.drop (r * GoT.sz α) ++ sp, ?_, (c2.take r).drop l, hC, by simp; omega, by omega⟩
    have hl2 := c2.len
    have hm : l * GoT.sz α ≤ r * GoT.sz α := Nat.mul_le_mul_right _ h1
    have hm2 : r * GoT.sz α ≤ xs.length * GoT.sz α := Nat.mul_le_mul_right _ h2
    rw [← List.drop_drop, c1, List.drop_append_of_le_length (by omega), ← List.append_assoc]
    congr 1
    rw [← List.drop_append_of_le_length (by rw [List.length_take]; omega), List.take_append_drop]
theorem IV.cut {I : Mem} {ao : Option Addr} {n c : Nat} {xs : List α} (h : IV I (.slice ao n c) xs) {l r : Nat} (h1 : l ≤ r) (h2 : r ≤ xs.length) : n = xs.length ∧ n ≤ c ∧ IV I (.slice (if c = l then ao else ao.map (·.add (l * GoT.sz α))) (r - l) (c - l)) ((xs.take r).drop l) := by
  rcases h with ⟨⟨a1, h⟩, rfl⟩ | ⟨g, off, cap, C, E, fr, h, b, hS⟩
  · injection h with ha hb hc
    subst ha hb hc
    simp at h2
    subst h2
    simp at h1
    subst h1
    exact ⟨rfl, Nat.le_refl _, .inl ⟨⟨ao, rfl⟩, rfl⟩⟩
  · injection h with ha hb hc
    subst ha hb hc
    have hS' := hS
    obtain ⟨cs, sp, c1, c2, c3, c4, c5⟩ := hS'
    refine ⟨rfl, c4, ?_⟩
    have hl2 := c2.len
    have htot : cs.length + sp.length = C.size - off := by have := congrArg List.length c1; simpa using this.symm
    have hm : l * GoT.sz α ≤ xs.length * GoT.sz α := Nat.mul_le_mul_right _ (by omega)
    have hS2 := hS.cut h1 h2 (by omega)
    have hlen : ((xs.take r).drop l).length = r - l := by simp; omega
    refine .inr ⟨g, if c = l then off else off + l * GoT.sz α, c - l, C, E, fr, ?_, b, hS2⟩
    rw [hlen]
    split <;> simp [Addr.add_lit]
/-- A piece of a lasting slice. -/
theorem cti {x : Operand} {v : Value} {xs ys : List α} {lo hi : Option Operand} {lv hv : Option Int} {kl kh : IntKind} {l' h' : Int} (S : ET P T E zv kb α) (hx : ev e x = some v) (hxv : IV I v xs)
    (hlo : lo = none ∧ lv = none ∧ l' = 0 ∨ ∃ o, lo = some o ∧ ev e o = some (.int kl l') ∧ lv = some l') (hhi : hi = none ∧ hv = none ∧ h' = xs.length ∨ ∃ o, hi = some o ∧ ev e o = some (.int kh h') ∧ hv = some h') (hc : Proofs.Ytcfapdamgbbklaa.cut xs l' h' = some ys) (hd : Nat.blt d N = true)
    (k : ∀ ao c, IV I (.slice ao ys.length c) ys → WL P N w0 ops Q l ((d, .slice ao ys.length c) :: e) I G) : WL P N w0 ops Q (⟨some d, .slice T x lo hi none, t, p, af, none⟩ :: l) e I G := by
  obtain ⟨h0, h1, h2, rfl⟩ := cut_some hc
  obtain ⟨ao, c, rfl⟩ := hxv.hd
  obtain ⟨m, rfl⟩ := Int.eq_ofNat_of_zero_le h0
  obtain ⟨r, rfl⟩ := Int.eq_ofNat_of_zero_le (Int.le_trans h0 h1)
  simp only [Int.toNat_natCast] at *
  obtain ⟨_, hn, hiv⟩ := hxv.cut (l := m) (r := r) (by omega) (by omega)
  have hlen : ((xs.take r).drop m).length = r - m := by simp; omega
  rw [← hlen] at hiv
  refine WL.rd hd (fun ac w ha hw => ?_) (k _ _ hiv)
  have hr := run_cut (P := P) (w := w) S ao xs.length c lv hv kl kh m r (by rcases hlo with ⟨_, h, h'⟩ | ⟨o, _, _, h⟩; exact .inl ⟨h, by omega⟩; exact .inr h) (by rcases hhi with ⟨_, h, h'⟩ | ⟨o, _, _, h⟩; exact .inl ⟨h, by omega⟩; exact .inr h) (by omega) (by omega) hn
  rw [hlen]
  have el : lo.map ac.eval = lv.map (.int kl) := by
    rcases hlo with ⟨rfl, rfl, _⟩ | ⟨o, rfl, h, rfl⟩
    · rfl
    · simp [ha.ev h]
  have eh : hi.map ac.eval = hv.map (.int kh) := by
    rcases hhi with ⟨rfl, rfl, _⟩ | ⟨o, rfl, h, rfl⟩
    · rfl
    · simp [ha.ev h]
  simp only [execOp, ha.ev hx, el, eh, Option.map_none, Sem.run_bind, hr]
  rfl
/-- A piece of a slice of one's own, all of which goes. -/
theorem cto {x : Operand} {v : Value} {xs ys : List α} {lo hi : Option Operand} {lv hv : Option Int} {kl kh : IntKind} {l' h' : Int} {E' : TypeId} (S : ET P T E zv kb α) (hx : ev e x = some v)
    (hlo : lo = none ∧ lv = none ∧ l' = 0 ∨ ∃ o, lo = some o ∧ ev e o = some (.int kl l') ∧ lv = some l') (hhi : hi = none ∧ hv = none ∧ h' = xs.length ∨ ∃ o, hi = some o ∧ ev e o = some (.int kh h') ∧ hv = some h') (hc : Proofs.Ytcfapdamgbbklaa.cut xs l' h' = some ys) (hd : Nat.blt d N = true)
    (k : ∀ ao c, WL P N w0 ops Q l ((d, .slice ao ys.length c) :: e) I (OV E' (.slice ao ys.length c) ys :: G)) : WL P N w0 ops Q (⟨some d, .slice T x lo hi none, t, p, af, none⟩ :: l) e I (OV E' v xs :: G) := by
  obtain ⟨h0, h1, h2, rfl⟩ := cut_some hc
  obtain ⟨m, rfl⟩ := Int.eq_ofNat_of_zero_le h0
  obtain ⟨r, rfl⟩ := Int.eq_ofNat_of_zero_le (Int.le_trans h0 h1)
  simp only [Int.toNat_natCast] at *
  have hlen : ((xs.take r).drop m).length = r - m := by simp; omega
  refine WL.eff hd fun ac w ha _ hw => ?_
  have el : lo.map ac.eval = lv.map (.int kl) := by
    rcases hlo with ⟨rfl, rfl, _⟩ | ⟨o, rfl, h, rfl⟩
    · rfl
    · simp [ha.ev h]
  have eh : hi.map ac.eval = hv.map (.int kh) := by
    rcases hhi with ⟨rfl, rfl, _⟩ | ⟨o, rfl, h, rfl⟩
    · rfl
    · simp [ha.ev h]
  have hb : ∃ ao c, v = .slice ao xs.length c ∧ xs.length ≤ c ∧ SatW w I (OV E' (.slice (if c = m then ao else ao.map (·.add (m * GoT.sz α))) (r - m) (c - m)) ((xs.take r).drop m) :: G) := by
    rcases hw.open_ov with ⟨rfl, rfl⟩ | ⟨g, off, cap, C, rfl, b, hS, hC⟩
    · simp at h2
      subst h2
      have : m = 0 := by omega
      subst this
      exact ⟨none, 0, rfl, Nat.le_refl _, hw⟩
    · have hS' := hS
      obtain ⟨cs, sp, c1, c2, c3, c4, c5⟩ := hS'
      refine ⟨_, cap, rfl, c4, ?_⟩
      have hm : m * GoT.sz α ≤ cap * GoT.sz α := Nat.mul_le_mul_right _ (by omega)
      have hS2 := hS.cut (l := m) (r := r) (by omega) (by omega) (by omega)
      have h := b.shut_ov hS2 (by split <;> (rw [Nat.sub_mul]; omega))
      rw [hlen] at h
      by_cases he : cap = m
      · rw [if_pos he] at h ⊢; exact h
      · rw [if_neg he] at h ⊢; simpa [Addr.add_lit] using h
  obtain ⟨ao, c, rfl, hc, hsat⟩ := hb
  have hr := run_cut (P := P) (w := w) S ao xs.length c lv hv kl kh m r (by rcases hlo with ⟨_, h, h'⟩ | ⟨o, _, _, h⟩; exact .inl ⟨h, by omega⟩; exact .inr h) (by rcases hhi with ⟨_, h, h'⟩ | ⟨o, _, _, h⟩; exact .inl ⟨h, by omega⟩; exact .inr h) (by omega) (by omega) hc
  have kk := k (if c = m then ao else ao.map (·.add (m * GoT.sz α))) (c - m)
  rw [hlen] at kk
  exact ⟨_, w, I, _, by simp only [execOp, ha.ev hx, el, eh, Option.map_none, Sem.run_bind, hr]; rfl, Ext.refl w, hsat, kk⟩
end
end
end Go.Proofs.Ytcfapdamgbbklaa
