/- A logic of owned and of lasting memory: how plain data lie in memory; slices, read and grown. -/
import Derived.Test.YtcfapdamgbbklaaSb
import Derived.Laws.AppendOwn
import Derived.Laws.CopyRow
import Derived.Great.BuildSlice
namespace Go.Proofs.Ytcfapdamgbbklaa
set_option linter.unusedVariables false

/-- Plain data that lie in memory as so many cells. -/
class GoT (α : Type) where
  sz : Nat
  agg : Bool
  rep : Mem → List Value → α → Prop
  pos : 0 < sz
  one1 : agg = false → sz = 1
  len : ∀ {I cs x}, rep I cs x → cs.length = sz
  up : ∀ {I J cs x}, Mem.le I J → rep I cs x → rep J cs x
  one : ∀ {I cs x}, rep I cs x → ∀ v ∈ cs, v.oneCell' = true
/-- A row of them. -/
def Rows {α : Type} [GoT α] (I : Mem) : List Value → List α → Prop
  | cs, [] => cs = []
  | cs, x :: xs => ∃ c1 c2, cs = c1 ++ c2 ∧ GoT.rep I c1 x ∧ Rows I c2 xs
section
variable {α : Type} [GoT α]
theorem Rows.up {I J : Mem} (h : Mem.le I J) : ∀ {xs : List α} {cs : List Value}, Rows I cs xs → Rows J cs xs
  | [], _, k => k
  | _ :: _, _, ⟨c1, c2, e, k1, k2⟩ => ⟨c1, c2, e, GoT.up h k1, k2.up h⟩
theorem Rows.len {I : Mem} : ∀ {xs : List α} {cs : List Value}, Rows I cs xs → cs.length = xs.length * GoT.sz α
  | [], _, k => by simp [show _ = [] from k]
  | _ :: xs, _, ⟨c1, c2, e, k1, k2⟩ => by
    rw [e, List.length_append, GoT.len k1, k2.len, List.length_cons, Nat.add_mul, Nat.one_mul, Nat.add_comm]
theorem Rows.one {I : Mem} : ∀ {xs : List α} {cs : List Value}, Rows I cs xs → ∀ v ∈ cs, v.oneCell' = true
  | [], _, k => by rw [show _ = [] from k]; intro v hv; cases hv
  | _ :: xs, _, ⟨c1, c2, e, k1, k2⟩ => by
    intro v hv
    rw [e] at hv
    rcases List.mem_append.1 hv with hv | hv
    · exact GoT.one k1 v hv
    · exact k2.one v hv
theorem Rows.append {I : Mem} {ys : List α} {ds : List Value} (h : Rows I ds ys) : ∀ {xs : List α} {cs : List Value}, Rows I cs xs → Rows I (cs ++ ds) (xs ++ ys)
  | [], _, k => by rw [show _ = [] from k]; exact h
  | _ :: xs, _, ⟨c1, c2, e, k1, k2⟩ => ⟨c1, c2 ++ ds, by rw [e, List.append_assoc], k1, h.append k2⟩
theorem Rows.take {I : Mem} : ∀ {xs : List α} {cs : List Value} (k : Nat), Rows I cs xs → Rows I (cs.take (k * GoT.sz α)) (xs.take k)
  | [], _, k, h => by rw [show _ = [] from h]; simp [Rows]
  | x :: xs, cs, 0, h => by simp [Rows]
  | x :: xs, cs, k + 1, ⟨c1, c2, e, k1, k2⟩ => by
    refine ⟨c1, c2.take (k * GoT.sz α), ?_, k1, k2.take k⟩
    have hl := GoT.len k1
    rw [e, List.take_append, hl, Nat.add_mul, Nat.one_mul, Nat.add_sub_cancel, List.take_of_length_le (by rw [hl]; omega)]
theorem Rows.drop {I : Mem} : ∀ {xs : List α} {cs : List Value} (k : Nat), Rows I cs xs → Rows I (cs.drop (k * GoT.sz α)) (xs.drop k)
  | [], _, k, h => by rw [show _ = [] from h]; simp [Rows]
  | x :: xs, cs, 0, h => by simpa using h
  | x :: xs, cs, k + 1, ⟨c1, c2, e, k1, k2⟩ => by
    have hl := GoT.len k1
    have : cs.drop ((k + 1) * GoT.sz α) = c2.drop (k * GoT.sz α) := by
      rw [e, List.drop_append, hl, Nat.add_mul, Nat.one_mul, Nat.add_sub_cancel, List.drop_of_length_le (by rw [hl]; omega), List.nil_append]
    rw [this]
    exact k2.drop k
theorem Rows.get {I : Mem} {xs : List α} {cs : List Value} (h : Rows I cs xs) {k : Nat} {x : α} (hx : xs[k]? = some x) : ∃ c0 c1 c2, cs = c0 ++ c1 ++ c2 ∧ c0.length = k * GoT.sz α ∧ GoT.rep I c1 x := by
  have hd := h.drop k
  have hk : xs.drop k = x :: xs.drop (k + 1) := by
    have hl : k < xs.length := (List.getElem?_eq_some_iff.1 hx).1
    rw [List.drop_eq_getElem_cons hl]
    rw [(List.getElem?_eq_some_iff.1 hx).2]
  rw [hk] at hd
  obtain ⟨c1, c2, e, k1, k2⟩ := hd
  refine ⟨cs.take (k * GoT.sz α), c1, c2, ?_, ?_, k1⟩
  · rw [List.append_assoc, ← e, List.take_append_drop]
  · have hl : k < xs.length := (List.getElem?_eq_some_iff.1 hx).1
    rw [List.length_take, h.len]
    exact Nat.min_eq_left (Nat.mul_le_mul_right _ (Nat.le_of_lt hl))
theorem Rows.set {I : Mem} {xs : List α} {cs : List Value} (h : Rows I cs xs) {k : Nat} {y : α} {ds : List Value} (hk : k < xs.length) (hy : GoT.rep I ds y) :
    Rows I (cs.take (k * GoT.sz α) ++ ds ++ cs.drop ((k + 1) * GoT.sz α)) (xs.set k y) := by
  have h1 := h.take k
  have h2 := h.drop (k + 1)
  have e : xs.set k y = xs.take k ++ ([y] ++ xs.drop (k + 1)) := by
    rw [List.set_eq_take_append_cons_drop, if_pos hk]; rfl
  rw [e, List.append_assoc]
  refine Rows.append ?_ h1
  refine Rows.append h2 ?_
  exact ⟨ds, [], by simp, hy, rfl⟩
theorem Rows.single {I : Mem} {y : α} {ds : List Value} (hy : GoT.rep I ds y) : Rows I ds [y] := ⟨ds, [], by simp, hy, rfl⟩

/-- Cells of a block that read as a list. -/
def Sl (I : Mem) (C : Array Value) (off cap : Nat) (xs : List α) : Prop :=
  ∃ cs sp, C.toList.drop off = cs ++ sp ∧ Rows I cs xs ∧ off ≤ C.size ∧ xs.length ≤ cap ∧ cap ≤ maxLen
theorem Sl.up {I J : Mem} {C : Array Value} {off cap : Nat} {xs : List α} (h : Mem.le I J) : Sl I C off cap xs → Sl J C off cap xs :=
  fun ⟨cs, sp, a, b, c⟩ => ⟨cs, sp, a, b.up h, c⟩
/-- A value in its slot, or its cells. -/
def Rv (I : Mem) (v : Value) (x : α) : Prop := ∃ cs, GoT.rep I cs x ∧ v = if GoT.agg α then .agg cs.toArray else cs.headD undef
theorem Rv.up {I J : Mem} {v : Value} {x : α} (h : Mem.le I J) : Rv I v x → Rv J v x := fun ⟨cs, a, b⟩ => ⟨cs, GoT.up h a, b⟩
theorem Rv.cells {I : Mem} {v : Value} {x : α} : Rv I v x → GoT.rep I v.cells.toList x := fun ⟨cs, a, b⟩ => by
  have hl := GoT.len a
  cases h : GoT.agg α with
  | true => rw [h] at b; subst b; simpa [Value.cells] using a
  | false =>
    rw [h] at b
    have h1 := GoT.one1 h
    match cs, hl, b, a with
    | [u], _, b, a =>
      simp at b
      rw [b]
      have ho := GoT.one a u (by simp)
      have : u.cells = #[u] := by cases u <;> first | rfl | simp [Value.oneCell'] at ho
      rw [this]; exact a
    | [], hl, _, _ => simp [h1] at hl
    | _ :: _ :: _, hl, _, _ => simp [h1] at hl
/-- A lasting slice. -/
def IV (I : Mem) (v : Value) (xs : List α) : Prop :=
  ((∃ ao, v = .slice ao 0 0) ∧ xs = []) ∨ ∃ g off cap C E fr, v = .slice (some ⟨g, off, none⟩) xs.length cap ∧ I g = some (.cells C E fr) ∧ Sl I C off cap xs
theorem IV.up {I J : Mem} {v : Value} {xs : List α} (h : Mem.le I J) : IV I v xs → IV J v xs
  | .inl k => .inl k
  | .inr ⟨g, off, cap, C, E, fr, a, b, c⟩ => .inr ⟨g, off, cap, C, E, fr, a, h _ _ b, c.up h⟩
theorem IV.nil (I : Mem) : IV I (.slice none 0 0) ([] : List α) := .inl ⟨⟨none, rfl⟩, rfl⟩
/-- A slice of one's own. -/
def OV (E : TypeId) (v : Value) (xs : List α) : Asn where
  val I h := (v = .slice none 0 0 ∧ xs = []) ∨ ∃ g off cap C, v = .slice (some ⟨g, off, none⟩) xs.length cap ∧ h g = some (.cells C E (0, 0)) ∧ Sl I C off cap xs ∧ off + cap * GoT.sz α ≤ C.size
  up := fun h k => by
    rcases k with k | ⟨g, off, cap, C, a, b, c, d⟩
    · exact .inl k
    · exact .inr ⟨g, off, cap, C, a, b, c.up h, d⟩
/-- A slice that is read in a world. -/
def RW (w : World) (I : Mem) (v : Value) (xs : List α) : Prop :=
  ((∃ ao, v = .slice ao 0 0) ∧ xs = []) ∨ ∃ g off cap C E fr, v = .slice (some ⟨g, off, none⟩) xs.length cap ∧ w.heap[g]? = some (.cells C E fr) ∧ Sl I C off cap xs
def Rd (I : Mem) (G : List Asn) (v : Value) (xs : List α) : Prop := ∀ w, SatW w I G → RW w I v xs
theorem IV.rd {I : Mem} {G : List Asn} {v : Value} {xs : List α} (h : IV I v xs) : Rd I G v xs := fun w hw => by
  rcases h with h | ⟨g, off, cap, C, E, fr, a, b, c⟩
  · exact .inl h
  · exact .inr ⟨g, off, cap, C, E, fr, a, hw.imm b, c⟩
theorem sat.at : ∀ {G : List Asn} {I h : Mem} {k : Nat} {A : Asn}, sat G I h → G[k]? = some A → ∃ m, Mem.le m h ∧ A.val I m
  | [], _, _, _, _, _, h => by simp at h
  | B :: G, I, h, 0, A, k, e => by
    obtain ⟨h1, h2, a, b, c, d, f⟩ := k
    simp at e; subst e
    exact ⟨h1, b, d⟩
  | B :: G, I, h, n + 1, A, k, e => by
    obtain ⟨h1, h2, a, b, c, d, f⟩ := k
    obtain ⟨m, x, y⟩ := f.at (k := n) (by simpa using e)
    exact ⟨m, x.trans c, y⟩
theorem SatW.at {w : World} {I : Mem} {G : List Asn} {k : Nat} {A : Asn} (h : SatW w I G) (e : G[k]? = some A) : ∃ m, (∀ b o, m b = some o → w.heap[b]? = some o) ∧ A.val I m := by
  obtain ⟨m, a, b, c, d⟩ := h
  obtain ⟨m', x, y⟩ := d.at e
  exact ⟨m', fun b o k => c b o (x b o k), y⟩
theorem OV.rd {I : Mem} {G : List Asn} {E : TypeId} {v : Value} {xs : List α} (k : Nat) (h : G[k]? = some (OV E v xs)) : Rd I G v xs := fun w hw => by
  obtain ⟨m, hm, hv⟩ := hw.at h
  rcases hv with hv | ⟨g, off, cap, C, a, b, c, d⟩
  · exact .inl ⟨⟨none, hv.1⟩, hv.2⟩
  · exact .inr ⟨g, off, cap, C, E, (0, 0), a, hm _ _ b, c⟩
theorem Rd.cons {I : Mem} {G : List Asn} {A : Asn} {v : Value} {xs : List α} (h : Rd I G v xs) : Rd I (A :: G) v xs := fun w hw => h w hw.drop
theorem RW.head {w : World} {I : Mem} {v : Value} {xs : List α} (h : RW w I v xs) : ∃ ao cap, v = .slice ao xs.length cap ∧ xs.length ≤ cap ∧ cap ≤ maxLen := by
  rcases h with ⟨⟨ao, rfl⟩, rfl⟩ | ⟨g, off, cap, C, E, fr, a, b, cs, sp, c, d, f, h1, h2⟩
  · exact ⟨ao, 0, rfl, Nat.le_refl _, by simp [maxLen]⟩
  · exact ⟨_, cap, a, h1, h2⟩
/-- The cells of a slice that is read. -/
theorem RW.read {w : World} {I : Mem} {v : Value} {xs : List α} (h : RW w I v xs) (hx : xs ≠ []) : ∃ a cap cs, v = .slice (some a) xs.length cap ∧ Rows I cs xs ∧ (∀ j u, cs[j]? = some u → w.cell? (a.add j) = some u) := by
  rcases h with ⟨_, rfl⟩ | ⟨g, off, cap, C, E, fr, a, b, cs, sp, c, d, f, h1, h2⟩
  · exact absurd rfl hx
  · refine ⟨⟨g, off, none⟩, cap, cs, a, d, fun j u hj => ?_⟩
    have e : C[off + j]? = some u := by
      have h3 : (C.toList.drop off)[j]? = some u := by rw [c, List.getElem?_append_left (List.getElem?_eq_some_iff.1 hj).1]; exact hj
      simpa [List.getElem?_drop] using h3
    rw [Addr.add_lit]
    simp [World.cell?, b, e]
/-- Sealed off: what one owned lasts. -/
theorem SatW.freeze_ov {w : World} {I : Mem} {G : List Asn} {E : TypeId} {v : Value} {xs : List α} (h : SatW w I (OV E v xs :: G)) : ∃ J, Mem.le I J ∧ IV J v xs ∧ SatW w J G := by
  obtain ⟨J, m, a, b, c, d⟩ := h.freeze
  refine ⟨J, a, ?_, d⟩
  rcases c with c | ⟨g, off, cap, C, x, y, z, _⟩
  · exact .inl ⟨⟨none, c.1⟩, c.2⟩
  · exact .inr ⟨g, off, cap, C, E, (0, 0), x, b _ _ y, z.up a⟩
end

/-! ### Instances -/
instance : GoT Int where
  sz := 1
  agg := false
  rep _ cs x := cs = [.int .i64 x]
  pos := by decide
  one1 _ := rfl
  len h := by rw [h]; rfl
  up _ h := h
  one h := by rw [h]; simp [Value.oneCell']
instance : GoT UInt8 where
  sz := 1
  agg := false
  rep _ cs x := cs = [.int .u8 (x.toNat : Int)]
  pos := by decide
  one1 _ := rfl
  len h := by rw [h]; rfl
  up _ h := h
  one h := by rw [h]; simp [Value.oneCell']
instance : GoT UInt32 where
  sz := 1
  agg := false
  rep _ cs x := cs = [.int .u32 (x.toNat : Int)]
  pos := by decide
  one1 _ := rfl
  len h := by rw [h]; rfl
  up _ h := h
  one h := by rw [h]; simp [Value.oneCell']
instance : GoT Bool where
  sz := 1
  agg := false
  rep _ cs x := cs = [.bool x]
  pos := by decide
  one1 _ := rfl
  len h := by rw [h]; rfl
  up _ h := h
  one h := by rw [h]; simp [Value.oneCell']
theorem IV.one {α : Type} [GoT α] {I : Mem} {v : Value} {xs : List α} (h : IV I v xs) : v.oneCell' = true := by
  rcases h with ⟨⟨ao, rfl⟩, _⟩ | ⟨g, off, cap, C, E, fr, rfl, _⟩ <;> rfl
instance {α : Type} [GoT α] : GoT (List α) where
  sz := 1
  agg := false
  rep I cs xs := ∃ v, cs = [v] ∧ IV I v xs
  pos := by decide
  one1 _ := rfl
  len h := by obtain ⟨v, rfl, _⟩ := h; rfl
  up h k := by obtain ⟨v, rfl, k⟩ := k; exact ⟨v, rfl, k.up h⟩
  one h := by obtain ⟨v, rfl, h⟩ := h; intro u hu; simp at hu; subst hu; exact h.one
theorem Rv.int {I : Mem} {v : Value} {x : Int} (h : Rv I v x) : v = .int .i64 x := by obtain ⟨cs, rfl, rfl⟩ := h; rfl
theorem Rv.u8 {I : Mem} {v : Value} {x : UInt8} (h : Rv I v x) : v = .int .u8 (x.toNat : Int) := by obtain ⟨cs, rfl, rfl⟩ := h; rfl
theorem Rv.u32 {I : Mem} {v : Value} {x : UInt32} (h : Rv I v x) : v = .int .u32 (x.toNat : Int) := by obtain ⟨cs, rfl, rfl⟩ := h; rfl
theorem Rv.bool {I : Mem} {v : Value} {x : Bool} (h : Rv I v x) : v = .bool x := by obtain ⟨cs, rfl, rfl⟩ := h; rfl
theorem Rv.sl {α : Type} [GoT α] {I : Mem} {v : Value} {x : List α} (h : Rv I v x) : IV I v x := by obtain ⟨cs, ⟨u, rfl, k⟩, rfl⟩ := h; exact k
theorem Rv.of_int (I : Mem) (x : Int) : Rv I (.int .i64 x) x := ⟨_, rfl, rfl⟩
theorem Rv.of_u8 (I : Mem) (x : UInt8) : Rv I (.int .u8 (x.toNat : Int)) x := ⟨_, rfl, rfl⟩
theorem Rv.of_u32 (I : Mem) (x : UInt32) : Rv I (.int .u32 (x.toNat : Int)) x := ⟨_, rfl, rfl⟩
theorem Rv.of_bool (I : Mem) (x : Bool) : Rv I (.bool x) x := ⟨_, rfl, rfl⟩
theorem IV.rv {α : Type} [GoT α] {I : Mem} {v : Value} {xs : List α} (h : IV I v xs) : Rv I v xs := ⟨[v], ⟨v, rfl, h⟩, rfl⟩

/-- What a slice type is. k: the bytes of an element; z: the zero element. -/
structure ET (P : Program) (T E : TypeId) (zv : Value) (k : Nat) (α : Type) [GoT α] : Prop where
  ht : P.underlying T = some (.slice E)
  hi : (P.info? E).map (fun i => (i.zero, i.size, i.bytes)) = some (some zv, GoT.sz α, k)
  hz : zv.cells.size = GoT.sz α
  ha : ∀ w, (isAgg E).run P w = .ok (GoT.agg α) w
theorem ET.parts {P : Program} {T E : TypeId} {zv : Value} {k : Nat} {α : Type} [GoT α] (S : ET P T E zv k α) : ∃ i, P.info? E = some i ∧ i.zero = some zv ∧ i.size = GoT.sz α ∧ i.bytes = k := by
  have h := S.hi
  cases hi : P.info? E with
  | none => rw [hi] at h; cases h
  | some i => rw [hi] at h; simp at h; exact ⟨i, rfl, h.1, h.2.1, h.2.2⟩
section
variable {P : Program} {T E : TypeId} {zv : Value} {k : Nat} {α : Type} [GoT α]
theorem new_of {w : World} {I : Mem} {G : List Asn} {C : Array Value} {off cap : Nat} {xs : List α} (h : SatW w I G) (hS : Sl I C off cap xs) (hC : off + cap * GoT.sz α ≤ C.size) :
    SatW (w.alloc (.cells C E)) I (OV E (.slice (some ⟨w.heap.size, off, none⟩) xs.length cap) xs :: G) :=
  (h.new (.cells C E)).conv fun h k => .inr ⟨w.heap.size, off, cap, C, rfl, k, hS, hC⟩
theorem SatW.open_ov {w : World} {I : Mem} {G : List Asn} {v : Value} {xs : List α} (h : SatW w I (OV E v xs :: G)) : (v = .slice none 0 0 ∧ xs = []) ∨
    ∃ g off cap C, v = .slice (some ⟨g, off, none⟩) xs.length cap ∧ SatW w I (own g (.cells C E (0, 0)) :: G) ∧ Sl I C off cap xs ∧ off + cap * GoT.sz α ≤ C.size := by
  obtain ⟨m, a, b, c, h1, h2, d, e, f, i, j⟩ := h
  rcases i with i | ⟨g, off, cap, C, x, y, z, u⟩
  · exact .inl i
  · exact .inr ⟨g, off, cap, C, x, ⟨m, a, b, c, h1, h2, d, e, f, y, j⟩, z, u⟩
theorem SatW.shut_ov {w : World} {I : Mem} {G : List Asn} {xs : List α} {g off cap : Nat} {C : Array Value} (h : SatW w I (own g (.cells C E (0, 0)) :: G)) (hS : Sl I C off cap xs) (hC : off + cap * GoT.sz α ≤ C.size) :
    SatW w I (OV E (.slice (some ⟨g, off, none⟩) xs.length cap) xs :: G) := h.conv fun h k => .inr ⟨g, off, cap, C, rfl, k, hS, hC⟩
theorem SatW.row {w : World} {I : Mem} {G : List Asn} {g : Nat} {C C' : Array Value} (h : SatW w I (own g (.cells C E (0, 0)) :: G)) : SatW (w.setRow g C') I (own g (.cells C' E (0, 0)) :: G) :=
  h.set (setRow_heap w g C C' E (0, 0) h.own_at) fun b hb => setRow_other w g b C' hb
/-- append, to what one owns. -/
theorem run_app (S : ET P T E zv k α) (ty : TypeId) {w : World} {I : Mem} {G : List Asn} {v u : Value} {xs ys : List α} (hw : SatW w I (OV E v xs :: G)) (hu : RW w I u ys) (hk : fits (xs.length + ys.length) k) (hl : xs.length + ys.length ≤ 140737488355328) :
    ∃ v' w', (Builtin.append_ #[T, T] ty #[v, u]).run P w = .ok v' w' ∧ SatW w' I (OV E v' (xs ++ ys) :: G) ∧ Ext w w' := by
  obtain ⟨i, hi, hz0, hz1, hz2⟩ := S.parts
  have hsz := GoT.pos (α := α)
  have hzs := S.hz
  have grown : ∀ (old : Nat) (olds news : List Value), Rows I olds xs → Rows I news ys → SatW (w.drew.alloc (.cells (olds.toArray ++ news.toArray ++ Builtin.zeroCells zv.cells (grownCap w (xs.length + ys.length) old E - (xs.length + ys.length))) E)) I
      (OV E (.slice (some ⟨w.heap.size, 0, none⟩) (xs.length + ys.length) (grownCap w (xs.length + ys.length) old E)) (xs ++ ys) :: G) := by
    intro old olds news ho hn
    have hge := grownCap_ge w (xs.length + ys.length) old E
    have hcm : grownCap w (xs.length + ys.length) old E ≤ maxLen := grownCap_le_maxLen w _ old E (by simp only [maxLen]; omega)
    have hd : SatW w.drew I G := hw.drop
    have h := new_of (E := E) (xs := xs ++ ys) (off := 0) (cap := grownCap w (xs.length + ys.length) old E) (C := olds.toArray ++ news.toArray ++ Builtin.zeroCells zv.cells (grownCap w (xs.length + ys.length) old E - (xs.length + ys.length))) hd
      ⟨olds ++ news, (Builtin.zeroCells zv.cells (grownCap w (xs.length + ys.length) old E - (xs.length + ys.length))).toList, by simp, hn.append ho, Nat.zero_le _, by rw [List.length_append]; exact hge, hcm⟩
      (by
        rw [Array.size_append, Array.size_append, size_zeroCells, List.size_toArray, List.size_toArray, ho.len, hn.len, hzs, ← Nat.add_mul, ← Nat.add_mul, Nat.zero_add]
        exact Nat.mul_le_mul_right _ (by omega))
    rw [List.length_append] at h
    exact h
  have extg : ∀ o, Ext w (w.drew.alloc o) := fun o => (Ext.drawn w _).trans (Ext.alloc _ o)
  rcases hw.open_ov with ⟨rfl, rfl⟩ | ⟨g, off, cap, C, rfl, hsat, ⟨cs, sp, h1, h2, h3, h4, h5⟩, hC⟩
  · by_cases hy : ys = []
    · subst hy
      refine ⟨.slice none 0 0, w, ?_, hw, Ext.refl w⟩
      obtain ⟨ao, c, rfl, _, _⟩ := hu.head
      have hf : (Builtin.firstCells i.size 0 (.slice ao 0 c)).run P w = .ok #[] w := by
        cases ao <;> simp [Builtin.firstCells, loadCells, loadCellsFrom]
      simp [Builtin.append_, run_underlying S.ht, sizeOf, typeInfo, hi, Builtin.lenOf, hf]
    · obtain ⟨a, c, news, rfl, hR, hc⟩ := hu.read hy
      have hlen : ys.length ≠ 0 := fun e => hy (List.eq_nil_of_length_eq_zero e)
      have hr := run_append_nil (P := P) w T ty E i zv S.ht hi hz0 a ys.length c news (by rw [hR.len, hz1]) hc (by omega) (by omega) (by rw [hz2]; simp only [fits, List.length_nil, Nat.zero_add] at hk; omega)
      have hgr := grown 0 [] news rfl hR
      simp only [List.length_nil, Nat.zero_add, List.nil_append] at hgr ⊢
      have e0 : (#[] : Array Value) ++ news.toArray = news.toArray := by simp
      rw [show ([] : List Value).toArray = #[] from rfl, e0] at hgr
      exact ⟨_, _, hr, hgr, extg _⟩
  · have hgw := hsat.own_at
    have hul := h2.len
    by_cases hroom : xs.length + ys.length ≤ cap
    · have hnews : ∃ news, Rows I news ys ∧ (Builtin.firstCells i.size ys.length u).run P w = .ok news.toArray w := by
        by_cases hy : ys = []
        · subst hy
          obtain ⟨ao, c, rfl, _, _⟩ := hu.head
          exact ⟨[], rfl, by cases ao <;> simp [Builtin.firstCells, loadCells, loadCellsFrom]⟩
        · obtain ⟨a, c, news, rfl, hR, hc⟩ := hu.read hy
          exact ⟨news, hR, run_firstCells_some (P := P) w i.size ys.length a ys.length c news (by rw [hR.len, hz1]) hc⟩
      obtain ⟨news, hR, hf⟩ := hnews
      have hlu : (Builtin.lenOf u).run P w = .ok ys.length w := by obtain ⟨ao, c, rfl, _, _⟩ := hu.head; rfl
      have hnl := hR.len
      have hcl : cs.length + sp.length = C.size - off := by
        have := congrArg List.length h1
        simpa using this.symm
      have hmulr : (xs.length + ys.length) * GoT.sz α ≤ cap * GoT.sz α := Nat.mul_le_mul_right _ hroom
      rw [Nat.add_mul] at hmulr
      have hfit : off + xs.length * GoT.sz α + news.length ≤ C.size := by rw [hnl]; omega
      have hst := run_storeCells_at P g (off + xs.length * i.size) E news 0 C w hgw (by rw [hz1]; omega) hR.one
      simp only [Nat.add_zero] at hst
      refine ⟨.slice (some ⟨g, off, none⟩) (xs.length + ys.length) cap, w.setRow g (C.toList.take (off + xs.length * i.size) ++ news ++ C.toList.drop (off + xs.length * i.size + news.length)).toArray, ?_, ?_, ⟨rfl, rfl, rfl, by simp⟩⟩
      · simp [Builtin.append_, run_underlying S.ht, sizeOf, typeInfo, hi, hlu, hroom, hf, Addr.add_lit, hst]
      · rw [hz1]
        have hs2 := hsat.row (C' := (C.toList.take (off + xs.length * GoT.sz α) ++ news ++ C.toList.drop (off + xs.length * GoT.sz α + news.length)).toArray)
        have hcs : cs = (C.toList.drop off).take (xs.length * GoT.sz α) := by rw [h1, ← hul, List.take_left]
        have hlen : (C.toList.take (off + xs.length * GoT.sz α)).length = off + xs.length * GoT.sz α := by
          rw [List.length_take, Array.length_toList (xs := C)]; exact Nat.min_eq_left (by omega)
        have h := hs2.shut_ov (xs := xs ++ ys) (off := off) (cap := cap)
          ⟨cs ++ news, C.toList.drop (off + xs.length * GoT.sz α + news.length), by
            rw [List.append_assoc, List.drop_append_of_le_length (by rw [hlen]; omega), List.drop_take, Nat.add_sub_cancel_left, ← hcs, List.append_assoc], hR.append h2, by simp; omega, by rw [List.length_append]; exact hroom, h5⟩
          (by simp only [List.size_toArray, List.length_append, hlen, List.length_drop, Array.length_toList]; omega)
        rw [List.length_append] at h
        exact h
    · have hholds : ∀ j u, cs[j]? = some u → w.cell? ((⟨g, off, none⟩ : Addr).add j) = some u := fun j u hj => by
        have e : C[off + j]? = some u := by
          have h3 : (C.toList.drop off)[j]? = some u := by rw [h1, List.getElem?_append_left (List.getElem?_eq_some_iff.1 hj).1]; exact hj
          simpa [List.getElem?_drop] using h3
        rw [Addr.add_lit]
        simp [World.cell?, hgw, e]
      have hy : ys ≠ [] := fun e => by subst e; simp at hroom; omega
      obtain ⟨a, c, news, rfl, hR, hc⟩ := hu.read hy
      have hr := run_append_grow (P := P) w T ty E i zv S.ht hi hz0 ⟨g, off, none⟩ xs.length cap cs (by rw [hul, hz1]) hholds a ys.length c news (by rw [hR.len, hz1]) hc (by omega) (by omega) (growslice_fits (by omega) (by rw [hz2]; exact hk))
      exact ⟨_, _, hr, grown cap cs news h2 hR, extg _⟩
end
end Go.Proofs.Ytcfapdamgbbklaa
