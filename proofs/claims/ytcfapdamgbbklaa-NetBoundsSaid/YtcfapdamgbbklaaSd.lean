/- A logic of owned and of lasting memory: the operations on memory. -/
import Derived.Test.YtcfapdamgbbklaaSc
import Derived.Great.FillDense
import Derived.Laws.MakeOwn
namespace Go.Proofs.Ytcfapdamgbbklaa
set_option linter.unusedVariables false

/-- A block of cells of one's own. -/
abbrev bl (g : Nat) (c : Array Value) (E : TypeId) : Asn := own g (.cells c E (0, 0))
def evs (e : Env) : List Operand → Option (List Value)
  | [] => some []
  | x :: xs => match ev e x, evs e xs with
    | some v, some vs => some (v :: vs)
    | _, _ => none
theorem Good.evs {N : Nat} {e : Env} {a : Act} (h : Good N e a) : ∀ {xs : List Operand} {vs : List Value}, evs e xs = some vs → xs.map a.eval = vs
  | [], vs, k => by simp [Proofs.Ytcfapdamgbbklaa.evs] at k; subst k; rfl
  | x :: xs, vs, k => by
    unfold Proofs.Ytcfapdamgbbklaa.evs at k
    split at k
    · rename_i v ws h1 h2
      obtain rfl := Option.some.inj k
      simp [h.ev h1, h.evs h2]
    · cases k

section
variable {P : Program} {N : Nat} {w0 : World} {ops : Array Oper} {Q : Exit → Act → World → Prop} {l : List Oper} {e : Env} {I : Mem} {G : List Asn} {d : Nat} {t : TypeId} {p : String} {af : Array Edge}

theorem WL.eff {op : Op} (hd : Nat.blt d N = true)
    (h : ∀ a w, Good N e a → Ext w0 w → SatW w I G → ∃ v w' J G', (execOp a.eval ⟨some d, op, t, p, af, none⟩).run P w = .ok (.value v) w' ∧ Ext w w' ∧ SatW w' J G' ∧ WL P N w0 ops Q l ((d, v) :: e) J G') :
    WL P N w0 ops Q (⟨some d, op, t, p, af, none⟩ :: l) e I G := fun a w ha hx hw => by
  obtain ⟨v, w', J, G', hr, hx', hw', k⟩ := h a w ha hx hw
  unfold wpList
  rw [if_pos (by simp [Region.wanted])]
  refine .inl ?_
  unfold Oper.wp
  rw [hr]
  exact k _ _ (ha.put hd v) (hx.trans hx') hw'
theorem WL.act {op : Op} (h : ∀ a w, Good N e a → Ext w0 w → SatW w I G → ∃ w' J G', (execOp a.eval ⟨none, op, t, p, af, none⟩).run P w = .ok .skip w' ∧ Ext w w' ∧ SatW w' J G' ∧ WL P N w0 ops Q l e J G') :
    WL P N w0 ops Q (⟨none, op, t, p, af, none⟩ :: l) e I G := fun a w ha hx hw => by
  obtain ⟨w', J, G', hr, hx', hw', k⟩ := h a w ha hx hw
  unfold wpList
  rw [if_pos (by simp [Region.wanted])]
  refine .inl ?_
  unfold Oper.wp
  rw [hr]
  exact k _ _ (ha.put_none _) (hx.trans hx') hw'
/-- A reading operation. -/
theorem WL.rd {op : Op} {v : Value} (hd : Nat.blt d N = true) (h : ∀ a w, Good N e a → SatW w I G → (execOp a.eval ⟨some d, op, t, p, af, none⟩).run P w = .ok (.value v) w) (k : WL P N w0 ops Q l ((d, v) :: e) I G) :
    WL P N w0 ops Q (⟨some d, op, t, p, af, none⟩ :: l) e I G := WL.eff hd fun a w ha hx hw => ⟨v, w, I, G, h a w ha hw, Ext.refl w, hw, k⟩
/-- Something that is owned lasts from now on. -/
theorem WL.freeze {α : Type} [GoT α] {E : TypeId} {v : Value} {xs : List α} (k : ∀ J, Mem.le I J → IV J v xs → WL P N w0 ops Q l e J G) : WL P N w0 ops Q l e I (OV E v xs :: G) := fun a w ha hx hw => by
  obtain ⟨J, h1, h2, h3⟩ := hw.freeze_ov
  exact k J h1 h2 a w ha hx h3
theorem WC.freeze {α : Type} [GoT α] {c : Code} {E : TypeId} {v : Value} {xs : List α} (k : ∀ J, Mem.le I J → IV J v xs → WC P N w0 c Q e J G) : WC P N w0 c Q e I (OV E v xs :: G) := fun a w ha hx hw => by
  obtain ⟨J, h1, h2, h3⟩ := hw.freeze_ov
  exact k J h1 h2 a w ha hx h3
theorem WX.freeze {α : Type} [GoT α] {x : Exit} {E : TypeId} {v : Value} {xs : List α} (k : ∀ J, Mem.le I J → IV J v xs → WX N w0 x Q e J G) : WX N w0 x Q e I (OV E v xs :: G) := fun a w ha hx hw => by
  obtain ⟨J, h1, h2, h3⟩ := hw.freeze_ov
  exact k J h1 h2 a w ha hx h3
theorem SatW.nil_ov {α : Type} [GoT α] {E : TypeId} {w : World} (h : SatW w I G) : SatW w I (OV E (.slice none 0 0) ([] : List α) :: G) := by
  obtain ⟨m, a, b, c, f⟩ := h
  have h0 : ∀ (b : Nat) (o : Obj), (none : Option Obj) = some o → False := fun _ _ h => by cases h
  exact ⟨m, a, b, c, (fun _ => none), m, (fun _ _ x => (h0 0 _ x).elim), (fun _ _ x => (h0 0 _ x).elim), Mem.le.refl _, Or.inl ⟨rfl, rfl⟩, f⟩
/-- A nil slice is one's own. -/
theorem WL.own_nil (α : Type) [GoT α] (E : TypeId) (k : WL P N w0 ops Q l e I (OV E (.slice none 0 0) ([] : List α) :: G)) : WL P N w0 ops Q l e I G := fun a w ha hx hw => k a w ha hx hw.nil_ov
theorem WC.own_nil (α : Type) [GoT α] {c : Code} (E : TypeId) (k : WC P N w0 c Q e I (OV E (.slice none 0 0) ([] : List α) :: G)) : WC P N w0 c Q e I G := fun a w ha hx hw => k a w ha hx hw.nil_ov
theorem WX.own_nil (α : Type) [GoT α] {x : Exit} (E : TypeId) (k : WX N w0 x Q e I (OV E (.slice none 0 0) ([] : List α) :: G)) : WX N w0 x Q e I G := fun a w ha hx hw => k a w ha hx hw.nil_ov
theorem IV.hd {α : Type} [GoT α] {I : Mem} {v : Value} {xs : List α} (h : IV I v xs) : ∃ ao c, v = .slice ao xs.length c := by
  rcases h with ⟨⟨ao, rfl⟩, rfl⟩ | ⟨g, off, cap, C, E, fr, rfl, _⟩
  · exact ⟨ao, 0, rfl⟩
  · exact ⟨_, _, rfl⟩
theorem OV.hd_of {α : Type} [GoT α] {E : TypeId} {I h : Mem} {v : Value} {xs : List α} (k : (OV E v xs).val I h) : ∃ ao c, v = .slice ao xs.length c := by
  rcases k with ⟨rfl, rfl⟩ | ⟨g, off, cap, C, rfl, _⟩
  · exact ⟨none, 0, rfl⟩
  · exact ⟨_, _, rfl⟩
theorem WL.hd {α : Type} [GoT α] {E : TypeId} {v : Value} {xs : List α} (k : ∀ ao c, v = .slice ao xs.length c → WL P N w0 ops Q l e I (OV E v xs :: G)) : WL P N w0 ops Q l e I (OV E v xs :: G) := fun a w ha hx hw => by
  obtain ⟨m, _, hv⟩ := hw.at (k := 0) rfl
  obtain ⟨ao, c, h⟩ := OV.hd_of hv
  exact k ao c h a w ha hx hw

/-! Blocks of one's own. -/
theorem al {T : TypeId} {z : Value} (hz : ∀ w, (zeroValue T).run P w = .ok z w) (hd : Nat.blt d N = true) (k : ∀ g, WL P N w0 ops Q l ((d, .pointer (some ⟨g, 0, none⟩)) :: e) I (bl g z.cells T :: G)) :
    WL P N w0 ops Q (⟨some d, .alloc T, t, p, af, none⟩ :: l) e I G := WL.eff hd fun a w ha hx hw =>
  ⟨.pointer (some ⟨w.heap.size, 0, none⟩), w.alloc (.cells z.cells T), I, _, by simp [execOp, Instr.alloc, hz, newVar, newRow], Ext.alloc _ _, hw.new _, k _⟩
theorem bx {T : TypeId} {x : Operand} {v : Value} {c : Array Value} (hx : ev e x = some v) (hc : v.cells = c) (hd : Nat.blt d N = true) (k : ∀ g, WL P N w0 ops Q l ((d, .pointer (some ⟨g, 0, none⟩)) :: e) I (bl g c T :: G)) :
    WL P N w0 ops Q (⟨some d, .box T x, t, p, af, none⟩ :: l) e I G := WL.eff hd fun a w ha _ hw =>
  ⟨.pointer (some ⟨w.heap.size, 0, none⟩), w.alloc (.cells c T), I, _, by simp [execOp, Instr.box, ha.ev hx, newVar, newRow, hc], Ext.alloc _ _, hw.new _, k _⟩
/-- How a struct type is put together. -/
def BT (P : Program) (T : TypeId) (z : Array Value) (pl : Array (Nat × Nat)) : Prop := ∀ parts, P.built T parts = Instr.fill (fun i => pl[i]?) z parts
def evp (e : Env) : List (Nat × Operand) → Option (List (Nat × Value))
  | [] => some []
  | (i, x) :: xs => match ev e x, evp e xs with
    | some v, some vs => some ((i, v) :: vs)
    | _, _ => none
theorem Good.evp {N : Nat} {e : Env} {a : Act} (h : Good N e a) : ∀ {xs : List (Nat × Operand)} {vs : List (Nat × Value)}, evp e xs = some vs → xs.map (fun (i, x) => (i, a.eval x)) = vs
  | [], vs, k => by simp [Proofs.Ytcfapdamgbbklaa.evp] at k; subst k; rfl
  | (i, x) :: xs, vs, k => by
    unfold Proofs.Ytcfapdamgbbklaa.evp at k
    split at k
    · rename_i v ws h1 h2
      obtain rfl := Option.some.inj k
      simp only [List.map_cons, h.ev h1]
      rw [h.evp h2]
    · cases k
theorem bu {T : TypeId} {parts : List (Nat × Operand)} {vs : List (Nat × Value)} {z : Array Value} {pl : Array (Nat × Nat)} {cs : Array Value} (hB : BT P T z pl) (hx : evp e parts = some vs) (hf : Instr.fill (fun i => pl[i]?) z vs = some cs) (hd : Nat.blt d N = true)
    (k : WL P N w0 ops Q l ((d, .agg cs) :: e) I G) : WL P N w0 ops Q (⟨some d, .build T parts.toArray, t, p, af, none⟩ :: l) e I G :=
  WL.val (fun a w ha => by
    have hr := run_build (P := P) w T (parts.toArray.map fun (i, x) => (i, a.eval x)) cs (by rw [hB, ← hf, ← ha.evp hx]; simp)
    simp only [execOp, Sem.run_bind, hr]; rfl) hd k
theorem cell_of {w : World} {g o : Nat} {C : Array Value} {E : TypeId} {fr : Nat × Nat} {v : Value} (h : w.heap[g]? = some (.cells C E fr)) (hv : C[o]? = some v) : w.cell? ⟨g, o, none⟩ = some v := by simp [World.cell?, h, hv]
theorem SatW.own_k {w : World} {g : Nat} {o : Obj} {k : Nat} (h : SatW w I G) (hk : G[k]? = some (own g o)) : w.heap[g]? = some o := by
  obtain ⟨m, a, b⟩ := h.at hk
  exact a _ _ b
/-- A type of one cell. -/
def NA (P : Program) (T : TypeId) : Prop := ∀ w, (isAgg T).run P w = .ok false w
/-- A type of n cells, a struct or an array. -/
def YA (P : Program) (T : TypeId) (n : Nat) : Prop := ∀ w, (isAgg T).run P w = .ok true w ∧ (sizeOf T).run P w = .ok n w
theorem run_load1 {w : World} {T : TypeId} {a : Addr} {v : Value} (hT : NA P T) (h : w.cell? a = some v) : (Instr.loadAt T (.pointer (some a))).run P w = .ok v w := by
  simp [Instr.loadAt, Instr.sureAddr, loadVar, hT w, load, Sem.run, h]
theorem run_loadn {w : World} {T : TypeId} {a : Addr} {n : Nat} {cs : List Value} (hT : YA P T n) (hl : cs.length = n) (h : ∀ j u, cs[j]? = some u → w.cell? (a.add j) = some u) : (Instr.loadAt T (.pointer (some a))).run P w = .ok (.agg cs.toArray) w := by
  have hc := run_loadCells (P := P) w a n (fun j => cs.getD j undef) (fun j hj => h j _ (by
    have : j < cs.length := by omega
    simp [this]))
  have e : (List.range n).map (fun j => cs.getD j undef) = cs := by
    refine List.ext_getElem (by simp [hl]) fun j h1 h2 => ?_
    simp [h2]
  rw [e] at hc
  simp [Instr.loadAt, Instr.sureAddr, loadVar, (hT w).1, (hT w).2, hc]
theorem ld {T : TypeId} {x : Operand} {g o : Nat} {C : Array Value} {E : TypeId} {v : Value} (kk : Nat) (hT : NA P T) (hx : ev e x = some (.pointer (some ⟨g, o, none⟩))) (hk : G[kk]? = some (bl g C E)) (hv : C[o]? = some v) (hd : Nat.blt d N = true) (k : WL P N w0 ops Q l ((d, v) :: e) I G) :
    WL P N w0 ops Q (⟨some d, .load T x, t, p, af, none⟩ :: l) e I G :=
  WL.rd hd (fun a w ha hw => by simp only [execOp, ha.ev hx, Sem.run_bind, run_load1 hT (cell_of (hw.own_k hk) hv)]; rfl) k
theorem lda {T : TypeId} {x : Operand} {g o n : Nat} {C : Array Value} {E : TypeId} {cs : List Value} (kk : Nat) (hT : YA P T n) (hx : ev e x = some (.pointer (some ⟨g, o, none⟩))) (hk : G[kk]? = some (bl g C E)) (hv : (C.toList.drop o).take n = cs) (hn : cs.length = n) (hd : Nat.blt d N = true) (k : WL P N w0 ops Q l ((d, .agg cs.toArray) :: e) I G) :
    WL P N w0 ops Q (⟨some d, .load T x, t, p, af, none⟩ :: l) e I G :=
  WL.rd hd (fun a w ha hw => by
    simp only [execOp, ha.ev hx, Sem.run_bind, run_loadn hT hn (fun j u hj => by
      rw [Addr.add_lit]
      refine cell_of (hw.own_k hk) ?_
      rw [← hv, List.getElem?_take] at hj
      split at hj
      · simpa [List.getElem?_drop] using hj
      · cases hj)]
    rfl) k
theorem run_store1 {w : World} {T : TypeId} {g o : Nat} {C : Array Value} {E : TypeId} {v : Value} (hs : (sizeOf T).run P w = .ok 1 w) (h1 : v.oneCell' = true) (h : w.heap[g]? = some (.cells C E (0, 0))) (ho : o < C.size) : (Instr.storeAt T (.pointer (some ⟨g, o, none⟩)) v).run P w = .ok () (w.setRow g (C.setIfInBounds o v)) := by
  have hc : v.cells = #[v] := by cases v <;> first | rfl | cases h1
  have hst : (store ((⟨g, o, none⟩ : Addr).add 0) v).run P w = .ok () (w.setRow g (C.setIfInBounds o v)) := by
    rw [show (⟨g, o, none⟩ : Addr).add 0 = ⟨g, o, none⟩ from rfl, run_store P w _ v _ h1]
    have hcell : w.cell? ⟨g, o, none⟩ = some C[o] := by simp [World.cell?, h, ho]
    have hfro : w.frozen? ⟨g, o, none⟩ = false := by simp [World.frozen?, h]
    rw [hcell]
    simp [hfro, setCell_eq_setRow w g o C E (0, 0) v h]
  simp [Instr.storeAt, Instr.sureAddr, storeVar, hs, hc, storeCells, hst]
/-- The size of a type. -/
def SZ (P : Program) (T : TypeId) (n : Nat) : Prop := ∀ w, (sizeOf T).run P w = .ok n w
theorem st {T : TypeId} {x y : Operand} {g o : Nat} {C C' : Array Value} {E : TypeId} {v : Value} (hT : SZ P T 1) (hx : ev e x = some (.pointer (some ⟨g, o, none⟩))) (hy : ev e y = some v) (h1 : v.oneCell' = true) (ho : Nat.blt o C.size = true) (hC : C.setIfInBounds o v = C') (k : WL P N w0 ops Q l e I (bl g C' E :: G)) :
    WL P N w0 ops Q (⟨none, .store T x y, t, p, af, none⟩ :: l) e I (bl g C E :: G) := WL.act fun a w ha _ hw => by
  have ho' : o < C.size := by simpa [Nat.blt_eq] using ho
  have hr := run_store1 (P := P) (hT w) h1 hw.own_at ho'
  rw [hC] at hr
  exact ⟨w.setRow g C', I, _, by simp [execOp, ha.ev hx, ha.ev hy, hr], ⟨rfl, rfl, rfl, by simp⟩, hw.row, k⟩
theorem sta {T : TypeId} {x y : Operand} {g o n : Nat} {C C' : Array Value} {E : TypeId} {cs : Array Value} (hT : SZ P T n) (hx : ev e x = some (.pointer (some ⟨g, o, none⟩))) (hy : ev e y = some (.agg cs)) (hn : cs.size = n) (h1 : cs.toList.all (·.oneCell') = true) (ho : Nat.ble (o + n) C.size = true) (hC : (C.toList.take o ++ cs.toList ++ C.toList.drop (o + n)).toArray = C') (k : WL P N w0 ops Q l e I (bl g C' E :: G)) :
    WL P N w0 ops Q (⟨none, .store T x y, t, p, af, none⟩ :: l) e I (bl g C E :: G) := WL.act fun a w ha _ hw => by
  have ho' : o + n ≤ C.size := by simpa using ho
  have hst := run_storeCells_at P g o E cs.toList 0 C w hw.own_at (by rw [Array.length_toList (xs := cs)]; omega) (fun v hv => List.all_eq_true.1 h1 v hv)
  rw [Nat.add_zero, Array.length_toList (xs := cs), hn, hC] at hst
  exact ⟨w.setRow g C', I, _, by simp [execOp, ha.ev hx, ha.ev hy, Instr.storeAt, Instr.sureAddr, storeVar, hT w, Value.cells, hn, hst], ⟨rfl, rfl, rfl, by simp⟩, hw.row, k⟩
end
end Go.Proofs.Ytcfapdamgbbklaa
