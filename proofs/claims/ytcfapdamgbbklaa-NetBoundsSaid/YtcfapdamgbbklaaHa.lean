/- Words of this proof: bytes as values, how a slice of bytes is read, what a call leaves as it was. -/
import Derived.Test.YtcfapdamgbbklaaProg
import Derived.WalkKit
import Derived.Outline
import Derived.WalkSpells
import Derived.WalkLawsBesides
import Derived.Lib.Hide
import Derived.Deep.LoopGhost
import Derived.Laws.AppendOwnNone
import Derived.Deep.QuietTactic
import Derived.BigQuiet
import Derived.Laws.BytesArg
namespace Go.Proofs.Ytcfapdamgbbklaa
open Go.RowKit

/-- A byte as a value. -/
abbrev bv (b : UInt8) : Value := .int .u8 (b.toNat : Int)
/-- A word as a value. -/
abbrev wv (b : UInt32) : Value := .int .u32 (b.toNat : Int)

/-- The cells from an address on read as these values (one cell each). -/
def CellsAt (w : World) (ao : Option Addr) (xs : List Value) : Prop :=
  (ao = none → xs = []) ∧ ∀ a, ao = some a → ∀ j u, xs[j]? = some u → w.cell? (a.add j) = some u

/-- A slice value that reads as these values. -/
def Reads (w : World) (ao : Option Addr) (n cap : Nat) (xs : List Value) : Prop :=
  xs.length = n ∧ n ≤ cap ∧ cap ≤ maxLen ∧ (ao = none → cap = 0) ∧ CellsAt w ao xs

theorem below_drew {w w1 : World} (h : Below w.drew.heap.size w.drew w1) : Below w.heap.size w w1 := (Below.refl w.heap.size w).drew.trans h
theorem below_drewN {w w1 : World} {d : Nat} (h : Below (w.drewN d).heap.size (w.drewN d) w1) : Below w.heap.size w w1 := ⟨h.os, h.tape, h.output, h.size, h.block⟩
theorem below_of_drewN (B : Nat) (w : World) (d : Nat) : Below B w (w.drewN d) := ⟨rfl, rfl, rfl, Nat.le_refl _, fun _ _ => rfl⟩
theorem below_go {w w1 w2 : World} (h : Below w.heap.size w w1) (h2 : Below w1.heap.size w1 w2) : Below w.heap.size w w2 := h.trans (h2.mono h.size)
theorem CellsAt.below {w w' : World} {ao : Option Addr} {xs : List Value} (h : CellsAt w ao xs) (hb : Below w.heap.size w w') : CellsAt w' ao xs :=
  ⟨h.1, fun a ha j u hu => by
    have := h.2 a ha j u hu
    rw [hb.cell (World.block_lt_of_cell? w _ this)]; exact this⟩

theorem Reads.below {w w' : World} {ao : Option Addr} {n cap : Nat} {xs : List Value} (h : Reads w ao n cap xs) (hb : Below w.heap.size w w') : Reads w' ao n cap xs :=
  ⟨h.1, h.2.1, h.2.2.1, h.2.2.2.1, h.2.2.2.2.below hb⟩

theorem Reads.at {w : World} {ao : Option Addr} {n cap : Nat} {xs : List Value} (h : Reads w ao n cap xs) {k : Nat} (hk : k < n) :
    ∃ a, ao = some a ∧ w.cell? (a.add k) = some (xs.getD k undef) := by
  obtain ⟨h1, _, _, _, h2, h3⟩ := h
  have hk' : k < xs.length := by omega
  cases ao with
  | none => have := h2 rfl; subst this; simp at hk'
  | some a => exact ⟨a, rfl, h3 a rfl k _ (by simp [List.getD, hk'])⟩

/-- Element k of a slice of bytes, as a letter. -/
theorem Reads.at_b {w : World} {ao : Option Addr} {n cap : Nat} {xs : List UInt8} (h : Reads w ao n cap (xs.map bv)) {k : Nat} (hk : k < n) :
    ∃ a x, ao = some a ∧ w.cell? (a.add k) = some (.int .u8 (x.toNat : Int)) ∧ Hid (xs[k]? = some x) := by
  obtain ⟨a, ha, hc⟩ := h.at hk
  have hk' : k < xs.length := by have := h.1; simp at this; omega
  exact ⟨a, xs[k], ha, by rw [hc]; simp [List.getD, hk'], by unfold Hid; simp [hk']⟩
/-- Element k of a slice of words, as a letter. -/
theorem Reads.at_w {w : World} {ao : Option Addr} {n cap : Nat} {xs : List UInt32} (h : Reads w ao n cap (xs.map wv)) {k : Nat} (hk : k < n) :
    ∃ a x, ao = some a ∧ w.cell? (a.add k) = some (.int .u32 (x.toNat : Int)) ∧ Hid (xs[k]? = some x) := by
  obtain ⟨a, ha, hc⟩ := h.at hk
  have hk' : k < xs.length := by have := h.1; simp at this; omega
  exact ⟨a, xs[k], ha, by rw [hc]; simp [List.getD, hk'], by unfold Hid; simp [hk']⟩

theorem bits8 (a b : UInt8) : bits .xor .u8 (a.toNat : Int) (b.toNat : Int) = ((a ^^^ b).toNat : Int) ∧ bits .and .u8 (a.toNat : Int) (b.toNat : Int) = ((a &&& b).toNat : Int) ∧ bits .or .u8 (a.toNat : Int) (b.toNat : Int) = ((a ||| b).toNat : Int) := by
  have e : ∀ x : UInt8, BitVec.ofInt 8 (x.toNat : Int) = x.toBitVec := fun x => by
    rw [BitVec.ofInt_natCast]; exact BitVec.ofNat_toNat _ _
  have hw : ∀ x : UInt8, IntKind.u8.wrap (x.toNat : Int) = (x.toNat : Int) := fun x => by
    have := x.toNat_lt
    simp only [IntKind.wrap, IntKind.bits, IntKind.signed]; simp; omega
  refine ⟨?_, ?_, ?_⟩
  · show IntKind.u8.wrap ((BitVec.ofInt 8 (a.toNat : Int) ^^^ BitVec.ofInt 8 (b.toNat : Int)).toNat : Int) = _
    rw [e, e]; exact hw (a ^^^ b)
  · show IntKind.u8.wrap ((BitVec.ofInt 8 (a.toNat : Int) &&& BitVec.ofInt 8 (b.toNat : Int)).toNat : Int) = _
    rw [e, e]; exact hw (a &&& b)
  · show IntKind.u8.wrap ((BitVec.ofInt 8 (a.toNat : Int) ||| BitVec.ofInt 8 (b.toNat : Int)).toNat : Int) = _
    rw [e, e]; exact hw (a ||| b)
theorem bits32 (a b : UInt32) : bits .xor .u32 (a.toNat : Int) (b.toNat : Int) = ((a ^^^ b).toNat : Int) ∧ bits .and .u32 (a.toNat : Int) (b.toNat : Int) = ((a &&& b).toNat : Int) ∧ bits .or .u32 (a.toNat : Int) (b.toNat : Int) = ((a ||| b).toNat : Int) := by
  have e : ∀ x : UInt32, BitVec.ofInt 32 (x.toNat : Int) = x.toBitVec := fun x => by
    rw [BitVec.ofInt_natCast]; exact BitVec.ofNat_toNat _ _
  have hw : ∀ x : UInt32, IntKind.u32.wrap (x.toNat : Int) = (x.toNat : Int) := fun x => by
    have := x.toNat_lt
    simp only [IntKind.wrap, IntKind.bits, IntKind.signed]; simp; omega
  refine ⟨?_, ?_, ?_⟩
  · show IntKind.u32.wrap ((BitVec.ofInt 32 (a.toNat : Int) ^^^ BitVec.ofInt 32 (b.toNat : Int)).toNat : Int) = _
    rw [e, e]; exact hw (a ^^^ b)
  · show IntKind.u32.wrap ((BitVec.ofInt 32 (a.toNat : Int) &&& BitVec.ofInt 32 (b.toNat : Int)).toNat : Int) = _
    rw [e, e]; exact hw (a &&& b)
  · show IntKind.u32.wrap ((BitVec.ofInt 32 (a.toNat : Int) ||| BitVec.ofInt 32 (b.toNat : Int)).toNat : Int) = _
    rw [e, e]; exact hw (a ||| b)


/-- What the laws on a slice's growth want to know of its type: T: the slice type, E: the element's, z: its zero value, k: its bytes; one cell each. -/
structure SliceT (P : Program) (T E : TypeId) (z : Value) (k : Nat) : Prop where
  ht : P.underlying T = some (.slice E)
  hi : (P.info? E).map (fun i => (i.zero, i.size, i.bytes)) = some (some z, 1, k)
  hz : z.cells.size = 1

theorem below_of_grown {base : Nat} {w w' : World} {v : Value} {E : TypeId} {sz n : Nat} {xs : List Value} (hown : w.ownsRow base E sz v n xs) (hb : base ≤ w.heap.size) (hg : w.grownBy w' v.ownBlock) : Below base w w' :=
  (Below.refl base w).grown hg hb fun k hk => (hown.lt k hk).1

/-- The shape of an owned slice. -/
theorem own_shape {w : World} {base : Nat} {E : TypeId} {v : Value} {n : Nat} {xs : List Value} (h : w.ownsRow base E 1 v n xs) :
    ∃ ao cap, v = .slice ao n cap ∧ Reads w ao n cap xs ∧ (∀ a, ao = some a → base ≤ a.block ∧ a.off = 0 ∧ a.spot = none) := by
  have hl : xs.length = n := by simpa using h.1
  rcases h.2 with ⟨rfl, rfl⟩ | ⟨g, cap, cur, rfl, hb, hg, hnc, hcm, hcs, ht⟩
  · exact ⟨none, 0, rfl, ⟨hl, Nat.le_refl _, by simp [maxLen], fun _ => rfl, fun _ => List.eq_nil_of_length_eq_zero hl, fun a ha => by cases ha⟩, fun a ha => by cases ha⟩
  · refine ⟨some ⟨g, 0, none⟩, cap, rfl, ⟨hl, hnc, hcm, fun e => (by cases e), fun e => (by cases e), fun a ha => ?_⟩, fun a ha => ?_⟩
    · obtain rfl := Option.some.inj ha
      exact h.cells rfl
    · obtain rfl := Option.some.inj ha
      exact ⟨hb, rfl, rfl⟩

theorem own_reads {w : World} {base : Nat} {E : TypeId} {ao : Option Addr} {cap n : Nat} {xs : List Value} (h : w.ownsRow base E 1 (.slice ao n cap) n xs) : Reads w ao n cap xs := by
  obtain ⟨ao', cap', e, hr, _⟩ := own_shape h
  injection e with e1 e2 e3
  subst e1 e3
  exact hr
theorem SliceT.elem {P : Program} {T E : TypeId} {z : Value} {k : Nat} (S : SliceT P T E z k) : P.elem T = E := by
  simp [Program.elem, S.ht]
theorem SliceT.size {P : Program} {T E : TypeId} {z : Value} {k : Nat} (S : SliceT P T E z k) (w : World) : (sizeOf E).run P w = .ok 1 w := by
  obtain ⟨i, hi, _, h1, _⟩ := info_parts S.hi
  simp [sizeOf, typeInfo, hi, h1]
/-- The address of 's[l:]'. -/
def cutAddr (ao : Option Addr) (cap l : Nat) : Option Addr := if cap = l then ao else ao.map (·.add l)
theorem run_cut_hi {P : Program} {T E : TypeId} {z : Value} {k : Nat} (S : SliceT P T E z k) (ao : Option Addr) (n cap h : Nat) (h2 : h ≤ cap) (w : World) :
    (Instr.slice T (.slice ao n cap) none (some (.int .i64 (h : Int))) none).run P w = .ok (.slice ao h cap) w := by
  have ht : P.underlying T = some (.slice (P.elem T)) := by rw [S.elem]; exact S.ht
  rw [run_slice_h w T ao n cap ht .i64 (h : Int) (by omega) (by omega), S.elem, S.size]
  simp [Result.andThen, sliced]
  intro _
  cases ao <;> simp [Addr.add]
theorem run_cut_lh {P : Program} {T E : TypeId} {z : Value} {k : Nat} (S : SliceT P T E z k) (ao : Option Addr) (n cap l h : Nat) (h1 : l ≤ h) (h2 : h ≤ cap) (w : World) :
    (Instr.slice T (.slice ao n cap) (some (.int .i64 (l : Int))) (some (.int .i64 (h : Int))) none).run P w = .ok (.slice (cutAddr ao cap l) (h - l) (cap - l)) w := by
  have ht : P.underlying T = some (.slice (P.elem T)) := by rw [S.elem]; exact S.ht
  rw [run_slice_lh w T ao n cap ht .i64 .i64 (l : Int) (h : Int) (by omega) (by omega) (by omega), S.elem, S.size]
  simp [Result.andThen, sliced, cutAddr]
theorem run_cut_lo {P : Program} {T E : TypeId} {z : Value} {k : Nat} (S : SliceT P T E z k) (ao : Option Addr) (n cap l : Nat) (h1 : l ≤ n) (w : World) :
    (Instr.slice T (.slice ao n cap) (some (.int .i64 (l : Int))) none none).run P w = .ok (.slice (cutAddr ao cap l) (n - l) (cap - l)) w := by
  have ht : P.underlying T = some (.slice (P.elem T)) := by rw [S.elem]; exact S.ht
  rw [run_slice_l w T ao n cap ht .i64 (l : Int) (by omega) (by omega), S.elem, S.size]
  simp [Result.andThen, sliced, cutAddr]
theorem add_add (a : Addr) (i j : Nat) : (a.add i).add j = a.add (i + j) := by
  obtain ⟨b, o, s⟩ := a
  unfold Addr.add
  by_cases hi : i = 0 <;> by_cases hj : j = 0 <;> simp [hi, hj, Nat.add_assoc]
theorem Reads.upto {w : World} {ao : Option Addr} {n cap : Nat} {xs : List Value} (h : Reads w ao n cap xs) {k : Nat} (hk : k ≤ n) : Reads w ao k cap (xs.take k) := by
  obtain ⟨h1, h2, h3, h4, h5, h6⟩ := h
  refine ⟨by simp; omega, by omega, h3, h4, fun e => by rw [h5 e, List.take_nil], fun a ha j u hj => ?_⟩
  refine h6 a ha j u ?_
  rw [List.getElem?_take] at hj
  split at hj
  · exact hj
  · cases hj
theorem Reads.behind {w : World} {ao : Option Addr} {n cap : Nat} {xs : List Value} (h : Reads w ao n cap xs) {k : Nat} (hk : k ≤ n) : Reads w (cutAddr ao cap k) (n - k) (cap - k) (xs.drop k) := by
  obtain ⟨h1, h2, h3, h4, h5, h6⟩ := h
  unfold cutAddr
  by_cases hc : cap = k
  · rw [if_pos hc]
    have : xs.drop k = [] := List.drop_eq_nil_of_le (by omega)
    rw [this]
    exact ⟨by simp; omega, by omega, by omega, fun _ => by omega, fun _ => rfl, fun a _ j u hj => by simp at hj⟩
  · rw [if_neg hc]
    refine ⟨by simp; omega, by omega, by omega, fun e => ?_, fun e => ?_, fun a ha j u hj => ?_⟩
    · have := h4 (by simpa using e); omega
    · rw [h5 (by simpa using e)]; simp
    · obtain ⟨a0, rfl, rfl⟩ := Option.map_eq_some_iff.1 ha
      rw [add_add]
      exact h6 a0 rfl (k + j) u (by simpa using hj)

/-- What is owned from a number on is owned from a smaller one on. -/
theorem own_base {w : World} {base base' : Nat} {E : TypeId} {sz n : Nat} {v : Value} {xs : List Value} (h : w.ownsRow base E sz v n xs) (hb : base' ≤ base) : w.ownsRow base' E sz v n xs := by
  refine ⟨h.1, ?_⟩
  rcases h.2 with h2 | ⟨g, cap, cur, e, hg, r⟩
  · exact .inl h2
  · exact .inr ⟨g, cap, cur, e, Nat.le_trans hb hg, r⟩
/-- Where what is owned lies, if there is something. -/
theorem own_addr {w : World} {base : Nat} {E : TypeId} {ao : Option Addr} {cap n : Nat} {xs : List Value} (h : w.ownsRow base E 1 (.slice ao n cap) n xs) (hn : 0 < n) : ∃ g, ao = some ⟨g, 0, none⟩ ∧ base ≤ g := by
  rcases h.2 with ⟨_, h0⟩ | ⟨g, cap', cur, e, hg, _⟩
  · omega
  · injection e with e1
    exact ⟨g, e1, hg⟩
theorem add0 (g j : Nat) : (⟨g, 0, none⟩ : Addr).add j = ⟨g, j, none⟩ := by rw [Addr.add_lit, Nat.zero_add]
/-- A slice whose cells have just been laid. -/
theorem reads_new (w : World) (cs : Array Value) (E : TypeId) (n : Nat) (hn : cs.size = n) (hm : n ≤ 140737488355328) :
    Reads (w.alloc (.cells cs E)) (some ⟨w.heap.size, 0, none⟩) n n cs.toList := by
  subst hn
  refine ⟨by simp, Nat.le_refl _, by simp only [maxLen]; omega, fun e => (by cases e), fun e => (by cases e), fun a ha j u hj => ?_⟩
  obtain rfl := Option.some.inj ha
  rw [add0, World.cell?_alloc_at _ _ _ _ rfl]
  simpa using hj
/-- The same of a block that bears a mark. -/
theorem reads_mark (w : World) (cs : Array Value) (E : TypeId) (fr : Nat × Nat) (n : Nat) (hn : cs.size = n) (hm : n ≤ 140737488355328) :
    Reads (w.alloc (.cells cs E fr)) (some ⟨w.heap.size, 0, none⟩) n n cs.toList := by
  subst hn
  refine ⟨by simp, Nat.le_refl _, by simp only [maxLen]; omega, fun e => (by cases e), fun e => (by cases e), fun a ha j u hj => ?_⟩
  obtain rfl := Option.some.inj ha
  rw [add0]
  have : (w.alloc (.cells cs E fr)).heap[w.heap.size]? = some (.cells cs E fr) := by
    show (w.heap.push (.cells cs E fr))[w.heap.size]? = _
    simp
  simp only [World.cell?, this]
  simpa using hj

/-- 'out = append(out, y)', out the call's own: y lies in a new block. -/
theorem wpL_app1 {P : Program} {T E : TypeId} {z : Value} {k : Nat} (S : SliceT P T E z k) {ops : Array Oper} {rest : List Oper} {o : Oper} {a : Act} {Q : Exit → Act → World → Prop} {w : World}
    {base : Nat} {v : Value} {n : Nat} {xs : List Value} (hown : w.ownsRow base E 1 v n xs) {y : Value} (hy : y.oneCell' = true) (hb : base ≤ w.heap.size) (hk : (n + 1) * k ≤ 140737488355328) (hn : n + 1 ≤ 140737488355328)
    (hg : o.guard = none) {s x : Operand} (ho : o.op = .call { callee := .builtin .append, args := #[s, x], argTypes := #[T, T] }) (hs : a.eval s = v) (hx : a.eval x = .slice (some ⟨w.heap.size, 0, none⟩) 1 1)
    (h : ∀ ao cap w', w'.ownsRow base E 1 (.slice ao (n + 1) cap) (n + 1) (xs ++ [y]) → Below base w w' → wpList P ops Q rest (a.put o.dst (.slice ao (n + 1) cap)) w') :
    wpList P ops Q (o :: rest) a (w.alloc (.cells #[y] E)) := by
  obtain ⟨i, hi, hz0, hz1, hz2⟩ := info_parts S.hi
  refine wpList_append_own _ hg s x T ho base E i z 1 k S.ht hi hz0 hz1 hz2 S.hz (by decide) v n xs hs (hown.alloc _) ⟨w.heap.size, 0, none⟩ 1 1 [y] hx rfl ?_ ?_ ?_ hk (by simp; omega) ?_
  · intro j u hj
    match j, hj with
    | 0, hj => simp at hj; subst hj; simp [Addr.add]
  · intro u hu; simp at hu; subst hu; exact hy
  · simp only [maxLen]; omega
  · intro v' w' h1 h2 _
    obtain ⟨ao, cap, rfl, _, _⟩ := own_shape h1
    exact h ao cap w' h1 (((Below.refl base w).alloc hb _).trans (below_of_grown (hown.alloc _) (by simp; omega) h2))

/-- 'out = append(out, ys...)', out the call's own, ys whatever reads so. -/
theorem wpL_appN {P : Program} {T E : TypeId} {z : Value} {k : Nat} (S : SliceT P T E z k) {ops : Array Oper} {rest : List Oper} {o : Oper} {a : Act} {Q : Exit → Act → World → Prop} {w : World}
    {base : Nat} {v : Value} {n : Nat} {xs : List Value} (hown : w.ownsRow base E 1 v n xs) {ao : Option Addr} {m c : Nat} {ys : List Value} (hr : Reads w ao m c ys) (hy : ∀ u ∈ ys, u.oneCell' = true) (hb : base ≤ w.heap.size)
    (hk : (n + m) * k ≤ 140737488355328) (hn : n + m ≤ 140737488355328)
    (hg : o.guard = none) {s x : Operand} (ho : o.op = .call { callee := .builtin .append, args := #[s, x], argTypes := #[T, T] }) (hs : a.eval s = v) (hx : a.eval x = .slice ao m c)
    (h : ∀ ao cap w', w'.ownsRow base E 1 (.slice ao (n + m) cap) (n + m) (xs ++ ys) → Below base w w' → wpList P ops Q rest (a.put o.dst (.slice ao (n + m) cap)) w') :
    wpList P ops Q (o :: rest) a w := by
  obtain ⟨i, hi, hz0, hz1, hz2⟩ := info_parts S.hi
  obtain ⟨hl, hmc, hcm, hnil, hc0, hc1⟩ := hr
  cases ao with
  | none =>
    have hc : c = 0 := hnil rfl
    have hy0 := hc0 rfl
    subst hy0
    obtain rfl : m = 0 := by omega
    subst hc
    obtain ⟨ao', cap', hv, _, _⟩ := own_shape hown
    subst hv
    refine wpList_append_own_none hg s x T ho base E i 1 S.ht hi _ n xs hs hown hx ?_
    have := h ao' cap' w (by simpa using hown) (Below.refl _ _)
    simpa using this
  | some ad =>
    refine wpList_append_own _ hg s x T ho base E i z 1 k S.ht hi hz0 hz1 hz2 S.hz (by decide) v n xs hs hown ad m c ys hx (by simpa using hl) (hc1 ad rfl) hy (by simp only [maxLen]; omega) hk hb ?_
    intro v' w' h1 h2 _
    obtain ⟨ao, cap, rfl, _, _⟩ := own_shape h1
    exact h ao cap w' h1 (below_of_grown hown hb h2)

/-- 'append([]T(nil), ys...)', 'append([]T{}, ys...)'. -/
theorem wpL_cp {P : Program} {T E : TypeId} {z : Value} {k : Nat} (S : SliceT P T E z k) {ops : Array Oper} {rest : List Oper} {o : Oper} {a : Act} {Q : Exit → Act → World → Prop} {w : World}
    {base : Nat} {v : Value} (hown : w.ownsRow base E 1 v 0 []) {ao : Option Addr} {m c : Nat} {ys : List Value} (hr : Reads w ao m c ys) (hy : ∀ u ∈ ys, u.oneCell' = true) (hb : base ≤ w.heap.size)
    (hk : m * k ≤ 140737488355328) (hn : m ≤ 140737488355328)
    (hg : o.guard = none) {s x : Operand} (ho : o.op = .call { callee := .builtin .append, args := #[s, x], argTypes := #[T, T] }) (hs : a.eval s = v) (hx : a.eval x = .slice ao m c)
    (h : ∀ ao cap w', w'.ownsRow base E 1 (.slice ao m cap) m ys → Below base w w' → wpList P ops Q rest (a.put o.dst (.slice ao m cap)) w') :
    wpList P ops Q (o :: rest) a w :=
  wpL_appN S hown hr hy hb (by rw [Nat.zero_add]; exact hk) (by rw [Nat.zero_add]; exact hn) hg ho hs hx fun ao cap w' h1 h2 => by
    rw [Nat.zero_add] at h1 ⊢
    exact h ao cap w' h1 h2

theorem bv_one (xs : List UInt8) : ∀ u ∈ xs.map bv, u.oneCell' = true := by
  intro u hu; obtain ⟨_, _, rfl⟩ := List.mem_map.1 hu; rfl
/-- The empty slice that is not nil. -/
theorem own_empty (w : World) (e : TypeId) : (w.alloc (.cells #[] e)).ownsRow w.heap.size e 1 (.slice (some ⟨w.heap.size, 0, none⟩) 0 0) 0 [] := World.ownsRow_made w #[] 0 (Nat.le_refl _) (by simp [maxLen]) rfl
theorem own_nil (w : World) (base : Nat) (e : TypeId) : w.ownsRow base e 1 (.slice none 0 0) 0 [] := World.ownsRow_nil _ _ _ _
#print axioms bits32
end Go.Proofs.Ytcfapdamgbbklaa
