/- A statement's arguments of any type are plain data: what came in, read cell by cell, is a number, a list, a structure in the logic of owned and of lasting memory. -/
import Derived.Test.YtcfapdamgbbklaaJa
import Derived.Deep.Slices
import Derived.ChangeArms
import Derived.WideShapes
import Derived.OpenShut
import Derived.DataReads
import Derived.SizedLaws
namespace Go.Proofs.Ytcfapdamgbbklaa
open Go.RowKit Go.Deep Go.WideShapes
set_option linter.unusedVariables false

/-- What is known of plain data by its type alone. -/
class GoB (α : Type) where
  ok : α → Prop
instance : GoB Int := ⟨fun x => -9223372036854775808 ≤ x ∧ x < 9223372036854775808⟩
instance : GoB UInt8 := ⟨fun _ => True⟩
instance : GoB UInt32 := ⟨fun _ => True⟩
instance : GoB Bool := ⟨fun _ => True⟩
instance {α : Type} [GoB α] : GoB (List α) := ⟨fun xs => xs.length ≤ maxLen ∧ ∀ x ∈ xs, GoB.ok x⟩
structure Opens (P : Program) (T : TypeId) (α : Type) [GoT α] [GoB α] : Prop where
  sz : P.cellsOf T = GoT.sz α
  vl : ∀ {w : World} {r : Reach} {b : Nat} {v : Value}, Value.okWide P w r b T v → if GoT.agg α then ∃ cs, v = .agg cs else v.cells = #[v]
  op : ∀ {H : Type} {enc : TypeId × Value → H} {w : World} {base : Nat} {held : Bool} {fuel : Nat} {cs : List Value} {x : DataW H × List MemPlace},
    DataW.trod enc P w base (fun _ => true) held fuel T cs = some x → ∃ y : α, GoT.rep (whole w) cs y ∧ GoB.ok y
/-- An argument. -/
theorem Opens.arg {P : Program} {T : TypeId} {α : Type} [GoT α] [GoB α] (o : Opens P T α) {H : Type} {enc : TypeId × Value → H} {w : World} {r : Reach} {b base : Nat} {held : Bool} {v : Value} {d : DataW H} {p : List MemPlace}
    (hv : Value.okWide P w r b T v) (h : DataW.Trod enc P w base (fun _ => true) held T v d p) : ∃ y : α, Rv (whole w) v y ∧ GoB.ok y := by
  obtain ⟨fuel, hf⟩ := h
  obtain ⟨y, hy, hk⟩ := o.op hf
  refine ⟨y, ⟨_, hy, ?_⟩, hk⟩
  have hl := o.vl hv
  cases ha : GoT.agg α with
  | true =>
    rw [ha, if_pos rfl] at hl
    obtain ⟨cs, rfl⟩ := hl
    simp [Value.cells]
  | false =>
    rw [ha] at hl
    simp only [Bool.false_eq_true, if_false] at hl ⊢
    rw [hl]; rfl
section
variable {P : Program} {T : TypeId}
theorem Opens.int (ht : P.underlying T = some (.int .i64)) (hc : P.cellsOf T = 1) : Opens P T Int where
  sz := hc
  vl {_ _ _ v} h := by
    simp only [Value.okWide, ht, Cell.okWide] at h
    show v.cells = #[v]
    cases v <;> simp_all [Cell.ok, Value.cells]
  op h := by
    obtain ⟨n, rfl, -, hw⟩ := DataW.trod_int ht h
    obtain ⟨l, u⟩ := bounds_i64 hw
    exact ⟨n, rfl, l, by omega⟩
theorem Opens.bool (ht : P.underlying T = some .bool) (hc : P.cellsOf T = 1) : Opens P T Bool where
  sz := hc
  vl {_ _ _ v} h := by
    simp only [Value.okWide, ht, Cell.okWide] at h
    show v.cells = #[v]
    cases v <;> simp_all [Cell.ok, Value.cells]
  op h := by
    obtain ⟨n, rfl, -⟩ := DataW.trod_bool ht h
    exact ⟨n, rfl, trivial⟩
theorem Opens.u8 (ht : P.underlying T = some (.int .u8)) (hc : P.cellsOf T = 1) : Opens P T UInt8 where
  sz := hc
  vl {_ _ _ v} h := by
    simp only [Value.okWide, ht, Cell.okWide] at h
    show v.cells = #[v]
    cases v <;> simp_all [Cell.ok, Value.cells]
  op h := by
    obtain ⟨n, rfl, -, hw⟩ := DataW.trod_int ht h
    simp only [Lit.wf, IntKind.min, IntKind.max, IntKind.signed, IntKind.bits, Bool.and_eq_true] at hw
    simp at hw
    refine ⟨UInt8.ofNat n.toNat, ?_, trivial⟩
    show [Value.int .u8 n] = [Value.int .u8 ((UInt8.ofNat n.toNat).toNat : Int)]
    rw [UInt8.toNat_ofNat_of_lt' (by show n.toNat < 256; omega)]
    rw [Int.toNat_of_nonneg (by omega)]
theorem Opens.u32 (ht : P.underlying T = some (.int .u32)) (hc : P.cellsOf T = 1) : Opens P T UInt32 where
  sz := hc
  vl {_ _ _ v} h := by
    simp only [Value.okWide, ht, Cell.okWide] at h
    show v.cells = #[v]
    cases v <;> simp_all [Cell.ok, Value.cells]
  op h := by
    obtain ⟨n, rfl, -, hw⟩ := DataW.trod_int ht h
    simp only [Lit.wf, IntKind.min, IntKind.max, IntKind.signed, IntKind.bits, Bool.and_eq_true] at hw
    simp at hw
    refine ⟨UInt32.ofNat n.toNat, ?_, trivial⟩
    show [Value.int .u32 n] = [Value.int .u32 ((UInt32.ofNat n.toNat).toNat : Int)]
    rw [UInt32.toNat_ofNat_of_lt' (by show n.toNat < 4294967296; omega)]
    rw [Int.toNat_of_nonneg (by omega)]
theorem Opens.slice {E : TypeId} {α : Type} [GoT α] [GoB α] (o : Opens P E α) (ht : P.underlying T = some (.slice E)) (hc : P.cellsOf T = 1) : Opens P T (List α) where
  sz := hc
  vl h := by
    obtain ⟨a, l, c, rfl⟩ := okWide_slice ht h
    rfl
  op {H enc w base held fuel cs x} h := by
    rcases open_slice ht h with ⟨rfl, _⟩ | ⟨a, len, cap, m, n, D, Pl, rfl, hb, hl, hm, hmm, hx, hi⟩
    · exact ⟨[], ⟨_, rfl, .inl ⟨⟨none, rfl⟩, rfl⟩⟩, Nat.zero_le _, fun x hx => by cases hx⟩
    · obtain rfl : m = cap := by simpa using hmm
      rw [o.sz] at hi
      have hk := GoT.pos (α := α)
      generalize hkk : GoT.sz α = k at *
      rcases Nat.eq_zero_or_pos m with h0 | h0
      · subst h0
        obtain rfl : len = 0 := by omega
        exact ⟨[], ⟨_, rfl, .inl ⟨⟨some a, rfl⟩, rfl⟩⟩, Nat.zero_le _, fun x hx => by cases hx⟩
      · obtain ⟨cs0, hc0, _⟩ := hi 0 h0
        obtain ⟨_, hl0, hat0⟩ := World.cells?_some hc0
        have h00 := hat0 0 hk
        have hv0 : cs0[0]? = some (cs0[0]'(by omega)) := List.getElem?_eq_getElem (by omega)
        have ez : (a.add (0 * k)).add 0 = a := by simp [Addr.add]
        rw [hv0, ez] at h00
        obtain ⟨C, E', fr, hg, hs, hC⟩ := block_of_cell h00
        obtain ⟨g, off, sp⟩ := a
        simp only at hs hg hC
        subst hs
        have ho : off < C.size := (Array.getElem?_eq_some_iff.1 hC).1
        have piece : ∀ i, i < m → ∃ y : α, GoT.rep (whole w) ((C.toList.drop (off + i * k)).take k) y ∧ GoB.ok y := fun i him => by
          obtain ⟨cs', hcs', htr⟩ := hi i him
          obtain ⟨_, hlen, hat⟩ := World.cells?_some hcs'
          obtain ⟨y, hy, hok⟩ := o.op htr
          have e : (C.toList.drop (off + i * k)).take k = cs' := by
            apply List.ext_getElem?
            intro j
            rw [List.getElem?_take]
            split
            · rename_i hj
              have hv : cs'[j]? = some (cs'[j]'(by omega)) := List.getElem?_eq_getElem (by omega)
              have h1 := hat j hj
              rw [hv] at h1
              obtain ⟨C', E'', fr', k1, _, k3⟩ := block_of_cell h1
              rw [Addr.add_lit, Addr.add_lit] at k1 k3
              simp only at k1 k3
              rw [hg] at k1
              obtain ⟨rfl, rfl, rfl⟩ : C = C' ∧ E' = E'' ∧ fr = fr' := by simpa using k1
              rw [hv, List.getElem?_drop, Array.getElem?_toList, k3]
            · rename_i hj
              rw [List.getElem?_eq_none (by omega)]
          exact ⟨y, by rw [e]; exact hy, hok⟩
        have rows : ∀ j, j ≤ len → ∃ xs : List α, xs.length = j ∧ Rows (whole w) ((C.toList.drop (off + (len - j) * k)).take (j * k)) xs ∧ ∀ x ∈ xs, GoB.ok x := by
          intro j
          induction j with
          | zero => exact fun _ => ⟨[], rfl, by show _ = []; simp, fun x hx => by cases hx⟩
          | succ j ih =>
            intro hj
            obtain ⟨xs, h1, h2, h3⟩ := ih (by omega)
            obtain ⟨y, hy, hok⟩ := piece (len - (j + 1)) (by omega)
            refine ⟨y :: xs, by rw [List.length_cons, h1], ⟨_, (C.toList.drop (off + (len - j) * k)).take (j * k), ?_, hy, h2⟩, fun x hx => ?_⟩
            · rw [Nat.add_mul, Nat.one_mul, Nat.add_comm (j * k) k, List.take_add, List.drop_drop]
              congr 3
              rw [Nat.add_assoc]
              congr 1
              have : len - j = (len - (j + 1)) + 1 := by omega
              rw [this, Nat.add_mul, Nat.one_mul]
            · rcases List.mem_cons.1 hx with rfl | hx
              · exact hok
              · exact h3 x hx
        obtain ⟨xs, h1, h2, h3⟩ := rows len (Nat.le_refl _)
        rw [Nat.sub_self, Nat.zero_mul, Nat.add_zero] at h2
        refine ⟨xs, ⟨_, rfl, .inr ⟨g, off, m, C, E', fr, by rw [h1], hg, _, (C.toList.drop off).drop (len * k), (List.take_append_drop _ _).symm, h2, by omega, by omega, hm⟩⟩, by omega, h3⟩
/-- How long a list may be that comes in. -/
theorem Opens.len {E : TypeId} {α : Type} [GoT α] (ht : P.underlying T = some (.slice E)) {H : Type} {enc : TypeId × Value → H} {w : World} {base : Nat} {held : Bool} {v : Value} {y : List α} {d : DataW H} {p : List MemPlace}
    (hv : Rv (whole w) v y) (h : DataW.Trod enc P w base (fun _ => true) held T v d p) {ts : List TypeId} {ds : List (DataW H)} (hz : (DataW.weightsEach P ts ds).all (· ≤ reachBytes) = true) {j : Nat} (hts : ts[j]? = some T) (hds : ds[j]? = some d) : y.length * P.bytesOf E ≤ reachBytes := by
  obtain ⟨fuel, hf⟩ := h
  obtain ⟨a, c, rfl⟩ := (Rv.sl hv).hd
  rcases open_slice ht hf with ⟨hcs, _⟩ | ⟨a', len, cap, m, n, D, Pl, hcs, _, _, _, _, hx, _⟩
  · simp [Value.cells] at hcs
    rw [hcs.2.1]; simp
  · simp [Value.cells] at hcs
    simp only [Prod.mk.injEq] at hx
    rw [hx.1] at hds
    have := sized_slice hz hts hds ht
    rw [List.length_map, List.length_range] at this
    rw [hcs.2.1]
    exact Nat.le_trans (Nat.mul_le_mul_right _ (Nat.le_add_right _ _)) this
/-- The cells of a structure, cut into its fields'. -/
theorem cut_cells (cs : List Value) (a k b : Nat) (h : b = a + k) : cs.drop a = (cs.drop a).take k ++ cs.drop b := by
  subst h
  rw [← List.drop_drop, List.take_append_drop]
theorem cut_end (cs : List Value) (a : Nat) (h : cs.length = a) : cs.drop a = [] := List.drop_of_length_le (by omega)
theorem some_at {α β : Type} {n m : Nat} {xs : List β} {f : α → Option β} {y : α} (h : f y = xs[n]?) (hl : xs.length = m) (hn : n < m) : ∃ x, f y = some x :=
  ⟨xs[n]'(by omega), by rw [h]; exact List.getElem?_eq_getElem (by omega)⟩
end
end Go.Proofs.Ytcfapdamgbbklaa
