/- A logic of owned and of lasting memory: the operations on slots: numbers, truths, addresses. -/
import Derived.Test.YtcfapdamgbbklaaSa
import Derived.Test.YtcfapdamgbbklaaDu
import Derived.Laws.Bits
namespace Go.Proofs.Ytcfapdamgbbklaa
set_option linter.unusedVariables false

section
variable {P : Program} {N : Nat} {w0 : World} {ops : Array Oper} {Q : Exit → Act → World → Prop} {l : List Oper} {e : Env} {I : Mem} {G : List Asn} {d : Nat} {t : TypeId} {p : String} {af : Array Edge}

theorem WL.val {op : Op} {v : Value} (hrun : ∀ a w, Good N e a → (execOp a.eval ⟨some d, op, t, p, af, none⟩).run P w = .ok (.value v) w) (hd : Nat.blt d N = true) (k : WL P N w0 ops Q l ((d, v) :: e) I G) :
    WL P N w0 ops Q (⟨some d, op, t, p, af, none⟩ :: l) e I G := fun a w ha hx hw => by
  unfold wpList
  rw [if_pos (by simp [Region.wanted])]
  refine .inl ?_
  unfold Oper.wp
  rw [hrun a w ha]
  exact k _ _ (ha.put hd v) hx hw
/-- A guard that holds. -/
theorem WL.on {op : Op} {dd : Option Nat} {j dj : Nat} {b : Bool} (hj : (ops[j]?).bind (·.dst) = some dj) (hv : look e dj = some (.bool b)) (k : WL P N w0 ops Q (⟨dd, op, t, p, af, none⟩ :: l) e I G) :
    WL P N w0 ops Q (⟨dd, op, t, p, af, some (j, b)⟩ :: l) e I G := fun a w ha hx hw => by
  have h := k a w ha hx hw
  unfold wpList at h ⊢
  rw [if_pos (by simp [Region.wanted])] at h
  have hy : yielded ops a.tmps j = some b := by unfold yielded; rw [hj]; simp [ha.2.2 _ _ hv]
  rw [if_pos (by simp [Region.wanted, hy])]
  rcases h with h | h
  · exact .inl h
  · exact .inr h
/-- A guard that does not. -/
theorem WL.no {op : Op} {j dj : Nat} {b c : Bool} (hj : (ops[j]?).bind (·.dst) = some dj) (hv : look e dj = some (.bool c)) (hbc : (c == b) = false) (hd : Nat.blt d N = true) (k : WL P N w0 ops Q l ((d, undef) :: e) I G) :
    WL P N w0 ops Q (⟨some d, op, t, p, af, some (j, b)⟩ :: l) e I G := fun a w ha hx hw => by
  unfold wpList
  have hy : yielded ops a.tmps j = some c := by unfold yielded; rw [hj]; simp [ha.2.2 _ _ hv]
  rw [if_neg (by simp [Region.wanted, hy]; simpa using hbc)]
  exact k _ _ (ha.put hd undef) hx hw
theorem WL.no_ {op : Op} {j dj : Nat} {b c : Bool} (hj : (ops[j]?).bind (·.dst) = some dj) (hv : look e dj = some (.bool c)) (hbc : (c == b) = false) (k : WL P N w0 ops Q l e I G) :
    WL P N w0 ops Q (⟨none, op, t, p, af, some (j, b)⟩ :: l) e I G := fun a w ha hx hw => by
  unfold wpList
  have hy : yielded ops a.tmps j = some c := by unfold yielded; rw [hj]; simp [ha.2.2 _ _ hv]
  rw [if_neg (by simp [Region.wanted, hy]; simpa using hbc)]
  exact k _ _ (ha.put_none undef) hx hw

theorem mv {x : Operand} {v : Value} (hx : ev e x = some v) (hd : Nat.blt d N = true) (k : WL P N w0 ops Q l ((d, v) :: e) I G) : WL P N w0 ops Q (⟨some d, .move x, t, p, af, none⟩ :: l) e I G :=
  WL.val (fun a w ha => by simp [execOp, ha.ev hx]) hd k
theorem asg {x : Operand} {v : Value} (hx : ev e x = some v) (hd : Nat.blt d N = true) (k : WL P N w0 ops Q l ((d, v) :: e) I G) : WL P N w0 ops Q (⟨some d, .assign x, t, p, af, none⟩ :: l) e I G :=
  WL.val (fun a w ha => by simp [execOp, ha.ev hx]) hd k
theorem pkT {c x y : Operand} {v : Value} (hc : ev e c = some (.bool true)) (hx : ev e x = some v) (hd : Nat.blt d N = true) (k : WL P N w0 ops Q l ((d, v) :: e) I G) : WL P N w0 ops Q (⟨some d, .pick c x y, t, p, af, none⟩ :: l) e I G :=
  WL.val (fun a w ha => by simp [execOp, ha.ev hc, ha.ev hx, asBool]) hd k
theorem pkF {c x y : Operand} {v : Value} (hc : ev e c = some (.bool false)) (hy : ev e y = some v) (hd : Nat.blt d N = true) (k : WL P N w0 ops Q l ((d, v) :: e) I G) : WL P N w0 ops Q (⟨some d, .pick c x y, t, p, af, none⟩ :: l) e I G :=
  WL.val (fun a w ha => by simp [execOp, ha.ev hc, ha.ev hy, asBool]) hd k

/-! Numbers. -/
theorem bin {op : BinOp} {x y : Operand} {T T' : TypeId} {u v r : Value} (hr : ∀ w, (do eqGuard op T x y u v; binOp op T u v : Sem Value).run P w = .ok r w) (hx : ev e x = some u) (hy : ev e y = some v) (hd : Nat.blt d N = true) (k : WL P N w0 ops Q l ((d, r) :: e) I G) :
    WL P N w0 ops Q (⟨some d, .binOp op T x y T', t, p, af, none⟩ :: l) e I G :=
  WL.val (fun a w ha => by
    have := hr w
    simp only [execOp, ha.ev hx, ha.ev hy]
    rw [Sem.run_bind, this]; rfl) hd k
section
variable {x y : Operand} {T T' : TypeId} {kd : IntKind} {m n : Int} {hx : ev e x = some (.int kd m)} {hy : ev e y = some (.int kd n)} {hd : Nat.blt d N = true}
theorem ad (hx : ev e x = some (.int kd m)) (hy : ev e y = some (.int kd n)) (hd : Nat.blt d N = true) (k : WL P N w0 ops Q l ((d, .int kd (kd.wrap (m + n))) :: e) I G) : WL P N w0 ops Q (⟨some d, .binOp .add T x y T', t, p, af, none⟩ :: l) e I G :=
  bin (fun w => by simp [eqGuard, binOp, Op.intArith]) hx hy hd k
theorem su (hx : ev e x = some (.int kd m)) (hy : ev e y = some (.int kd n)) (hd : Nat.blt d N = true) (k : WL P N w0 ops Q l ((d, .int kd (kd.wrap (m - n))) :: e) I G) : WL P N w0 ops Q (⟨some d, .binOp .sub T x y T', t, p, af, none⟩ :: l) e I G :=
  bin (fun w => by simp [eqGuard, binOp, Op.intArith]) hx hy hd k
theorem mu (hx : ev e x = some (.int kd m)) (hy : ev e y = some (.int kd n)) (hd : Nat.blt d N = true) (k : WL P N w0 ops Q l ((d, .int kd (kd.wrap (m * n))) :: e) I G) : WL P N w0 ops Q (⟨some d, .binOp .mul T x y T', t, p, af, none⟩ :: l) e I G :=
  bin (fun w => by simp [eqGuard, binOp, Op.intArith]) hx hy hd k
theorem qu (h0 : ¬ n = 0) (hx : ev e x = some (.int kd m)) (hy : ev e y = some (.int kd n)) (hd : Nat.blt d N = true) (k : WL P N w0 ops Q l ((d, .int kd (kd.wrap (m.tdiv n))) :: e) I G) : WL P N w0 ops Q (⟨some d, .binOp .quo T x y T', t, p, af, none⟩ :: l) e I G :=
  bin (fun w => by simp [eqGuard, binOp, Op.intDiv, h0]) hx hy hd k
theorem re (h0 : ¬ n = 0) (hx : ev e x = some (.int kd m)) (hy : ev e y = some (.int kd n)) (hd : Nat.blt d N = true) (k : WL P N w0 ops Q l ((d, .int kd (m.tmod n)) :: e) I G) : WL P N w0 ops Q (⟨some d, .binOp .rem T x y T', t, p, af, none⟩ :: l) e I G :=
  bin (fun w => by simp [eqGuard, binOp, Op.intDiv, h0]) hx hy hd k
theorem lt (hx : ev e x = some (.int kd m)) (hy : ev e y = some (.int kd n)) (hd : Nat.blt d N = true) (k : WL P N w0 ops Q l ((d, .bool (decide (m < n))) :: e) I G) : WL P N w0 ops Q (⟨some d, .binOp .lss T x y T', t, p, af, none⟩ :: l) e I G :=
  bin (fun w => by simp [eqGuard, binOp, Op.intCmp]) hx hy hd k
theorem le (hx : ev e x = some (.int kd m)) (hy : ev e y = some (.int kd n)) (hd : Nat.blt d N = true) (k : WL P N w0 ops Q l ((d, .bool (decide (m ≤ n))) :: e) I G) : WL P N w0 ops Q (⟨some d, .binOp .leq T x y T', t, p, af, none⟩ :: l) e I G :=
  bin (fun w => by simp [eqGuard, binOp, Op.intCmp]) hx hy hd k
theorem gt (hx : ev e x = some (.int kd m)) (hy : ev e y = some (.int kd n)) (hd : Nat.blt d N = true) (k : WL P N w0 ops Q l ((d, .bool (decide (n < m))) :: e) I G) : WL P N w0 ops Q (⟨some d, .binOp .gtr T x y T', t, p, af, none⟩ :: l) e I G :=
  bin (fun w => by simp [eqGuard, binOp, Op.intCmp]) hx hy hd k
theorem ge (hx : ev e x = some (.int kd m)) (hy : ev e y = some (.int kd n)) (hd : Nat.blt d N = true) (k : WL P N w0 ops Q l ((d, .bool (decide (n ≤ m))) :: e) I G) : WL P N w0 ops Q (⟨some d, .binOp .geq T x y T', t, p, af, none⟩ :: l) e I G :=
  bin (fun w => by simp [eqGuard, binOp, Op.intCmp]) hx hy hd k
theorem eq (hx : ev e x = some (.int kd m)) (hy : ev e y = some (.int kd n)) (hd : Nat.blt d N = true) (k : WL P N w0 ops Q l ((d, .bool (decide (m = n))) :: e) I G) : WL P N w0 ops Q (⟨some d, .binOp .eql T x y T', t, p, af, none⟩ :: l) e I G :=
  bin (r := .bool (decide (m = n))) (fun w => by
    have : (m == n) = decide (m = n) := by rw [Bool.eq_iff_iff]; simp
    simp [eqGuard, binOp, Op.intCmp, this]) hx hy hd k
theorem ne (hx : ev e x = some (.int kd m)) (hy : ev e y = some (.int kd n)) (hd : Nat.blt d N = true) (k : WL P N w0 ops Q l ((d, .bool (decide (m ≠ n))) :: e) I G) : WL P N w0 ops Q (⟨some d, .binOp .neq T x y T', t, p, af, none⟩ :: l) e I G :=
  bin (r := .bool (decide (m ≠ n))) (fun w => by
    have : (m != n) = decide (m ≠ n) := by rw [Bool.eq_iff_iff]; simp
    simp [eqGuard, binOp, Op.intCmp, this]) hx hy hd k
theorem bt {op : BinOp} (hop : op = .and ∨ op = .or ∨ op = .xor ∨ op = .andNot) (hx : ev e x = some (.int kd m)) (hy : ev e y = some (.int kd n)) (hd : Nat.blt d N = true) (k : WL P N w0 ops Q l ((d, .int kd (bits op kd m n)) :: e) I G) : WL P N w0 ops Q (⟨some d, .binOp op T x y T', t, p, af, none⟩ :: l) e I G :=
  bin (r := .int kd (bits op kd m n)) (fun w => by
    rcases hop with rfl | rfl | rfl | rfl <;> simp [eqGuard, binOp, Op.intBits, bits]) hx hy hd k
end
theorem sl {x y : Operand} {T T' : TypeId} {kd ky : IntKind} {m n : Int} (h0 : 0 ≤ n) (hx : ev e x = some (.int kd m)) (hy : ev e y = some (.int ky n)) (hd : Nat.blt d N = true) (k : WL P N w0 ops Q l ((d, .int kd (kd.wrap (m * 2 ^ min n.toNat kd.bits))) :: e) I G) : WL P N w0 ops Q (⟨some d, .binOp .shl T x y T', t, p, af, none⟩ :: l) e I G :=
  bin (fun w => by simp [eqGuard, binOp, Op.shift, show ¬ n < 0 from by omega]) hx hy hd k
theorem sr {x y : Operand} {T T' : TypeId} {kd ky : IntKind} {m n : Int} (h0 : 0 ≤ n) (hx : ev e x = some (.int kd m)) (hy : ev e y = some (.int ky n)) (hd : Nat.blt d N = true) (k : WL P N w0 ops Q l ((d, .int kd (m.fdiv (2 ^ min n.toNat kd.bits))) :: e) I G) : WL P N w0 ops Q (⟨some d, .binOp .shr T x y T', t, p, af, none⟩ :: l) e I G :=
  bin (fun w => by simp [eqGuard, binOp, Op.shift, show ¬ n < 0 from by omega]) hx hy hd k
theorem nt {x : Operand} {T : TypeId} {b : Bool} (hx : ev e x = some (.bool b)) (hd : Nat.blt d N = true) (k : WL P N w0 ops Q l ((d, .bool (!b)) :: e) I G) : WL P N w0 ops Q (⟨some d, .unOp .not T x, t, p, af, none⟩ :: l) e I G :=
  WL.val (fun a w ha => by simp [execOp, ha.ev hx, Op.unary]) hd k
theorem ng {x : Operand} {T : TypeId} {kd : IntKind} {m : Int} (hx : ev e x = some (.int kd m)) (hd : Nat.blt d N = true) (k : WL P N w0 ops Q l ((d, .int kd (kd.wrap (0 - m))) :: e) I G) : WL P N w0 ops Q (⟨some d, .unOp .neg T x, t, p, af, none⟩ :: l) e I G :=
  WL.val (fun a w ha => by simp [execOp, ha.ev hx, Op.unary, Op.intArith]) hd k
theorem cm {x : Operand} {T : TypeId} {kd : IntKind} {m : Int} (hx : ev e x = some (.int kd m)) (hd : Nat.blt d N = true) (k : WL P N w0 ops Q l ((d, .int kd (bits .xor kd (if kd.signed then -1 else kd.max) m)) :: e) I G) : WL P N w0 ops Q (⟨some d, .unOp .xor T x, t, p, af, none⟩ :: l) e I G :=
  WL.val (fun a w ha => by simp [execOp, ha.ev hx, Op.unary, Op.intBits, bits]) hd k
theorem cv {x : Operand} {S T : TypeId} {kd ks k2 : IntKind} {m : Int} (hS : P.underlying S = some (.int ks)) (hT : P.underlying T = some (.int kd)) (hx : ev e x = some (.int k2 m)) (hd : Nat.blt d N = true) (k : WL P N w0 ops Q l ((d, .int kd (kd.wrap m)) :: e) I G) : WL P N w0 ops Q (⟨some d, .convert S T x, t, p, af, none⟩ :: l) e I G :=
  WL.val (fun a w ha => by simp [execOp, ha.ev hx, convert, run_underlying hS, run_underlying hT, Conv.intToInt]) hd k
theorem ex {x : Operand} {i : Nat} {vs : Array Value} {v : Value} (hx : ev e x = some (.tuple vs)) (hv : vs[i]? = some v) (hd : Nat.blt d N = true) (k : WL P N w0 ops Q l ((d, v) :: e) I G) : WL P N w0 ops Q (⟨some d, .extract x i, t, p, af, none⟩ :: l) e I G :=
  WL.val (fun a w ha => by simp [execOp, ha.ev hx, Instr.extract, hv]) hd k
/-- What a slot holds is said otherwise. -/
theorem WL.re {v u : Value} (h : v = u) (k : WL P N w0 ops Q l ((d, u) :: e) I G) : WL P N w0 ops Q l ((d, v) :: e) I G := by rw [h]; exact k

/-! Addresses. -/
theorem nc {x : Operand} {a0 : Addr} (hx : ev e x = some (.pointer (some a0))) (hd : Nat.blt d N = true) (k : WL P N w0 ops Q l ((d, .pointer (some a0)) :: e) I G) : WL P N w0 ops Q (⟨some d, .nilCheck x, t, p, af, none⟩ :: l) e I G :=
  WL.val (fun a w ha => by simp [execOp, ha.ev hx]) hd k
/-- Field f of a struct type lies at an offset. -/
def Fld (P : Program) (s : TypeId) (f o : Nat) : Prop := ∀ a w, (Instr.fieldAt s (.pointer (some a)) f).run P w = .ok (.pointer (some (a.add o))) w
theorem Fld.mk {s : TypeId} {f o : Nat} {fs : Array Field} {fd : Field} {n : Nat} (hu : P.underlying s = some (.struct fs)) (hf : fs[f]? = some fd) (ho : fd.offset = o) (hs : (P.info? fd.type).map (·.size) = some (n + 1)) : Fld P s f o := fun a w => by
  cases hi : P.info? fd.type with
  | none => rw [hi] at hs; cases hs
  | some i =>
    rw [hi] at hs
    have hs' : i.size = n + 1 := by simpa using hs
    simp [Instr.fieldAt, run_underlying hu, hf, Instr.sureAddr, fieldPlace, sizeOf, typeInfo, hi, hs', ho]
theorem fa {x : Operand} {s : TypeId} {f o g j : Nat} (hF : Fld P s f o) (hx : ev e x = some (.pointer (some ⟨g, j, none⟩))) (hd : Nat.blt d N = true) (k : WL P N w0 ops Q l ((d, .pointer (some ⟨g, j + o, none⟩)) :: e) I G) : WL P N w0 ops Q (⟨some d, .fieldAddr s x f, t, p, af, none⟩ :: l) e I G :=
  WL.val (fun a w ha => by simp only [execOp, ha.ev hx, Sem.run_bind, hF _ w]; simp [Addr.add_lit]) hd k
end
end Go.Proofs.Ytcfapdamgbbklaa
