/- What was walked by hand, said in the logic of owned and of lasting memory. -/
import Derived.Test.YtcfapdamgbbklaaSg
import Derived.Test.YtcfapdamgbbklaaPh
import Derived.Test.YtcfapdamgbbklaaWe
namespace Go.Proofs.Ytcfapdamgbbklaa
open Go.RowKit
set_option linter.unusedVariables false

theorem ilt {i : Int} {n : Nat} (h : 0 ≤ i ∧ i < (n : Int)) : i.toNat < n := by omega
/-- The block of a pointer. -/
def pblk : Value → Nat
  | .pointer (some a) => a.block
  | _ => 0
theorem rows_u8 {I : Mem} : ∀ {xs : List UInt8} {cs : List Value}, Rows I cs xs → cs = xs.map bv
  | [], _, h => h
  | x :: xs, _, ⟨c1, c2, e, h1, h2⟩ => by rw [e, rows_u8 h2, show c1 = [bv x] from h1]; rfl
theorem RW.reads {w : World} {I : Mem} {v : Value} {xs : List UInt8} (h : RW w I v xs) : ∃ ao c, v = .slice ao xs.length c ∧ Reads w ao xs.length c (xs.map bv) := by
  rcases h with ⟨⟨ao, rfl⟩, rfl⟩ | ⟨g, off, cap, C, E, fr, rfl, b, cs, sp, c, d, f, h1, h2⟩
  · exact ⟨ao, 0, rfl, rfl, Nat.le_refl _, by simp [maxLen], fun _ => rfl, fun _ => rfl, fun a ha j u hj => by simp at hj⟩
  · refine ⟨_, cap, rfl, by simp, h1, h2, fun e => (by cases e), fun e => (by cases e), fun a ha j u hj => ?_⟩
    obtain rfl := Option.some.inj ha
    rw [← rows_u8 d] at hj
    have e : C[off + j]? = some u := by
      have h3 : (C.toList.drop off)[j]? = some u := by rw [c, List.getElem?_append_left (List.getElem?_eq_some_iff.1 hj).1]; exact hj
      simpa [List.getElem?_drop] using h3
    rw [Addr.add_lit]
    simp [World.cell?, b, e]
theorem IV.reads {w : World} {I : Mem} {G : List Asn} {v : Value} {xs : List UInt8} (h : IV I v xs) (hw : SatW w I G) : ∃ ao c, v = .slice ao xs.length c ∧ Reads w ao xs.length c (xs.map bv) := (h.rd w hw).reads
theorem SatW.below {w w' : World} {I : Mem} {G : List Asn} (h : SatW w I G) (hb : Below w.heap.size w w') : SatW w' I G := by
  obtain ⟨m, a, b, c, d⟩ := h
  have keep : ∀ x o, w.heap[x]? = some o → w'.heap[x]? = some o := fun x o k => by
    rw [hb.block x (Array.getElem?_eq_some_iff.1 k).1]; exact k
  exact ⟨m, a, fun x o k => keep x o (b x o k), fun x o k => keep x o (c x o k), d⟩
theorem belowExt {w w' : World} (hb : Below w.heap.size w w') : Ext w w' := ⟨hb.os, hb.tape, hb.output, hb.size⟩
theorem SatW.fresh {w w' : World} {I : Mem} {G : List Asn} {E : TypeId} {ao : Option Addr} {n cap : Nat} {xs : List UInt8} (h : SatW w I G) (hb : Below w.heap.size w w') (ho : w'.ownsRow w.heap.size E 1 (.slice ao n cap) n (xs.map bv)) (hn : n = xs.length) :
    SatW w' I (OV E (.slice ao xs.length cap) xs :: G) := by
  subst hn
  have hw := h.below hb
  rcases ho.2 with ⟨e, h0⟩ | ⟨g, cp, cur, e, hg, hh, h1, h2, h3, h4⟩
  · obtain rfl : xs = [] := List.eq_nil_of_length_eq_zero h0
    rw [e]
    exact hw.nil_ov
  · injection e with e1 e2 e3
    subst e1 e3
    obtain ⟨m, a, b, c, d⟩ := h
    have keep : ∀ x o, w.heap[x]? = some o → w'.heap[x]? = some o := fun x o k => by
      rw [hb.block x (Array.getElem?_eq_some_iff.1 k).1]; exact k
    have hI : I g = none := by
      cases e : I g with
      | none => rfl
      | some y => have := (Array.getElem?_eq_some_iff.1 (b _ _ e)).1; omega
    have hm : m g = none := by
      cases e : m g with
      | none => rfl
      | some y => have := (Array.getElem?_eq_some_iff.1 (c _ _ e)).1; omega
    have hcs : Rows I (xs.map bv) xs := by
      clear h4 h3 h1 ho
      induction xs with
      | nil => rfl
      | cons x xs ih => exact ⟨[bv x], xs.map bv, rfl, rfl, ih rfl⟩
    refine ⟨Mem.set m g (.cells cur E (0, 0)), ?_, fun x o k => keep x o (b x o k), ?_, (fun b => if b = g then some (.cells cur E (0, 0)) else none), m, ?_, ?_, ?_, ?_, d⟩
    · intro x y k
      unfold Mem.set at k
      split at k
      · subst x; exact hI
      · exact a x y k
    · intro x y k
      unfold Mem.set at k
      split at k
      · subst x; rw [← k]; exact hh
      · exact keep x y (c x y k)
    · intro x y k
      simp only at k
      split at k
      · subst x; exact hm
      · cases k
    · intro x y k
      simp only at k
      unfold Mem.set
      split at k
      · rename_i e; rw [if_pos e]; exact k
      · cases k
    · intro x y k
      unfold Mem.set
      rw [if_neg (by rintro rfl; rw [hm] at k; cases k)]; exact k
    · refine .inr ⟨g, 0, cap, cur, rfl, by simp, ⟨xs.map bv, cur.toList.drop xs.length, ?_, hcs, Nat.zero_le _, h1, h2⟩, ?_⟩
      · rw [Nat.mul_one] at h4
        rw [← h4, List.drop_zero, List.take_append_drop]
      · show 0 + cap * 1 ≤ cur.size
        omega
/-! Strings. -/
section
variable {P : Program} {N : Nat} {w0 : World} {ops : Array Oper} {Q : Exit → Act → World → Prop} {l : List Oper} {e : Env} {I : Mem} {G : List Asn} {d : Nat} {t : TypeId} {p : String} {af : Array Edge}
theorem cvs {x : Operand} {S E T : TypeId} {v : Value} {xs : List UInt8} (hs : P.underlying S = some (.slice E)) (he : P.underlying E = some (.int .u8)) (hT : P.underlying T = some .string) (hx : ev e x = some v) (hR : Rd I G v xs) (hd : Nat.blt d N = true) (k : WL P N w0 ops Q l ((d, .string (strB xs)) :: e) I G) : WL P N w0 ops Q (⟨some d, .convert S T x, t, p, af, none⟩ :: l) e I G :=
  WL.rd hd (fun a w ha hw => by
    obtain ⟨ao, c, rfl, hr⟩ := (hR w hw).reads
    simp only [execOp, ha.ev hx, Sem.run_bind, hr.convert S E T hs he hT]; rfl) k
theorem se {x y : Operand} {T T' : TypeId} {a b : List UInt8} (hx : ev e x = some (.string (strB a))) (hy : ev e y = some (.string (strB b))) (hd : Nat.blt d N = true) (k : WL P N w0 ops Q l ((d, .bool (a == b)) :: e) I G) : WL P N w0 ops Q (⟨some d, .binOp .eql T x y T', t, p, af, none⟩ :: l) e I G :=
  bin (fun w => by simp [eqGuard, binOp, Op.stringOp, strB_toList]) hx hy hd k
theorem sn {x y : Operand} {T T' : TypeId} {a b : List UInt8} (hx : ev e x = some (.string (strB a))) (hy : ev e y = some (.string (strB b))) (hd : Nat.blt d N = true) (k : WL P N w0 ops Q l ((d, .bool (!(a == b))) :: e) I G) : WL P N w0 ops Q (⟨some d, .binOp .neq T x y T', t, p, af, none⟩ :: l) e I G :=
  bin (fun w => by simp [eqGuard, binOp, Op.stringOp, strB_toList]) hx hy hd k
theorem freeze_get (w : World) (g n : Nat) (C : Array Value) (E : TypeId) (h : w.heap[g]? = some (.cells C E (0, 0))) : (w.freeze ⟨g, n, none⟩ 1).heap[g]? = some (.cells C E (n, n + 1)) := by
  unfold World.freeze
  rw [if_neg (by decide)]
  simp [Array.getElem?_modify, h]
theorem freeze_off (w : World) (g n b : Nat) (h : b ≠ g) : (w.freeze ⟨g, n, none⟩ 1).heap[b]? = w.heap[b]? := by
  unfold World.freeze
  rw [if_neg (by decide)]
  simp [Array.getElem?_modify, Ne.symm h]
theorem cvl {x : Operand} {S E E' : TypeId} {v : Value} {xs : List UInt8} (hs : P.underlying S = some (.slice E)) (he : P.underlying E = some (.int .u8)) (hx : ev e x = some v) (hne : Nat.beq xs.length 0 = false) (hd : Nat.blt d N = true)
    (k : ∀ J, Mem.le I J → IV J v xs → WL P N w0 ops Q l ((d, v) :: e) J G) : WL P N w0 ops Q (⟨some d, .convert S S x, t, p, af, none⟩ :: l) e I (OV E' v xs :: G) := WL.eff hd fun a w ha _ hw => by
  obtain ⟨h, h0, h1, h2, a1, a2, b1, b2, b3, b4, b5⟩ := hw
  rcases b4 with ⟨rfl, rfl⟩ | ⟨g, off, cap, C, rfl, hg, hS, hc⟩
  · cases hne
  have hwg := h2 _ _ (b2 _ _ hg)
  have hIg : I g = none := h0 _ _ (b2 _ _ hg)
  refine ⟨_, w.freeze ⟨g, C.size, none⟩ 1, Mem.set I g (.cells C E' (C.size, C.size + 1)), G, ?_, ⟨rfl, rfl, rfl, ?_⟩, ?_, k _ ?_ ?_⟩
  · have hsh : w.shape? g = some (E', C.size) := by unfold World.shape?; rw [hwg]
    simp [execOp, ha.ev hx, convert, run_underlying hs, run_underlying he, markStringish, hsh]
  · unfold World.freeze
    rw [if_neg (by decide)]
    simp
  · refine ⟨a2, ?_, ?_, ?_, ?_⟩
    · intro b o q
      unfold Mem.set
      split
      · rename_i hb; subst hb
        rw [b1 _ _ hg] at q; cases q
      · exact h0 _ _ (b3 _ _ q)
    · intro b o q
      unfold Mem.set at q
      split at q
      · rename_i hb; subst hb; cases q
        exact freeze_get w _ _ _ _ hwg
      · rename_i hb
        rw [freeze_off _ _ _ _ hb]; exact h1 _ _ q
    · intro b o q
      have hb : b ≠ g := fun hb => by subst hb; rw [b1 _ _ hg] at q; cases q
      rw [freeze_off _ _ _ _ hb]; exact h2 _ _ (b3 _ _ q)
    · refine sat.up (fun b o q => ?_) b5
      unfold Mem.set
      split
      · rename_i hb; subst hb; rw [hIg] at q; cases q
      · exact q
  · intro b o q
    unfold Mem.set
    split
    · rename_i hb; subst hb; rw [hIg] at q; cases q
    · exact q
  · refine .inr ⟨g, off, cap, C, E', _, rfl, by unfold Mem.set; rw [if_pos rfl], hS.up fun b o q => ?_⟩
    unfold Mem.set
    split
    · rename_i hb; subst hb; rw [hIg] at q; cases q
    · exact q
theorem rm8 {x y : Operand} {T T' : TypeId} {m n : Int} {a b : UInt8} (h0 : ¬ b = 0) (hx : ev e x = some (.int .u8 m)) (hy : ev e y = some (.int .u8 n)) (ha : m = (a.toNat : Int)) (hb : n = (b.toNat : Int)) (hd : Nat.blt d N = true) (k : WL P N w0 ops Q l ((d, .int .u8 ((a % b).toNat : Int)) :: e) I G) : WL P N w0 ops Q (⟨some d, .binOp .rem T x y T', t, p, af, none⟩ :: l) e I G :=
  re (by subst hb; intro h; exact h0 (by apply UInt8.toNat.inj; simpa using h)) hx hy hd (by
    subst ha hb
    rw [show ((a.toNat : Int).tmod (b.toNat : Int)) = ((a % b).toNat : Int) by rw [UInt8.toNat_mod]; exact (Int.ofNat_tmod _ _)]
    exact k)
theorem mx {x y : Operand} {ty : Array TypeId} {kd : IntKind} {m n : Int} (hx : ev e x = some (.int kd m)) (hy : ev e y = some (.int kd n)) (hd : Nat.blt d N = true) (k : WL P N w0 ops Q l ((d, .int kd (if m < n then n else m)) :: e) I G) : WL P N w0 ops Q (⟨some d, .call { callee := .builtin .max, args := #[x, y], argTypes := ty }, t, p, af, none⟩ :: l) e I G :=
  WL.val (fun a w ha => by
    simp [execOp, resolve, invoke, builtin, Builtin.max_, Builtin.max2, ha.ev hx, ha.ev hy]) hd k
theorem bits32' (a b : UInt32) : bits .xor .u32 (a.toNat : Int) (b.toNat : Int) = ((a ^^^ b).toNat : Int) ∧ bits .and .u32 (a.toNat : Int) (b.toNat : Int) = ((a &&& b).toNat : Int) ∧ bits .or .u32 (a.toNat : Int) (b.toNat : Int) = ((a ||| b).toNat : Int) := by
  have e : ∀ x : UInt32, BitVec.ofInt 32 (x.toNat : Int) = x.toBitVec := fun x => by
    rw [BitVec.ofInt_natCast]; exact BitVec.ofNat_toNat _ _
  have hw : ∀ x : UInt32, IntKind.u32.wrap (x.toNat : Int) = (x.toNat : Int) := fun x => by
    have := x.toNat_lt
    simp only [IntKind.wrap, IntKind.bits, IntKind.signed]; simp; omega
  refine ⟨?_, ?_, ?_⟩
  · show IntKind.u32.wrap ((BitVec.ofInt 32 (a.toNat : Int) ^^^ BitVec.ofInt 32 (b.toNat : Int)).toNat : Int) = _
    rw [e, e]; exact hw (a ^^^ b)
  · show IntKind.u32.wrap ((BitVec.ofInt 32 (a.toNat : Int) &&& BitVec.ofInt 32 (b.toNat : Int)).toNat : Int) = _
    rw [e, e]; exact hw (a &&& b)
  · show IntKind.u32.wrap ((BitVec.ofInt 32 (a.toNat : Int) ||| BitVec.ofInt 32 (b.toNat : Int)).toNat : Int) = _
    rw [e, e]; exact hw (a ||| b)
theorem or32 {x y : Operand} {T T' : TypeId} {m n : Int} {a b : UInt32} (hx : ev e x = some (.int .u32 m)) (hy : ev e y = some (.int .u32 n)) (ha : m = (a.toNat : Int)) (hb : n = (b.toNat : Int)) (hd : Nat.blt d N = true) (k : WL P N w0 ops Q l ((d, .int .u32 ((a ||| b).toNat : Int)) :: e) I G) : WL P N w0 ops Q (⟨some d, .binOp .or T x y T', t, p, af, none⟩ :: l) e I G :=
  bt (.inr (.inl rfl)) hx hy hd (by subst ha hb; rw [(bits32' a b).2.2]; exact k)
theorem and32 {x y : Operand} {T T' : TypeId} {m n : Int} {a b : UInt32} (hx : ev e x = some (.int .u32 m)) (hy : ev e y = some (.int .u32 n)) (ha : m = (a.toNat : Int)) (hb : n = (b.toNat : Int)) (hd : Nat.blt d N = true) (k : WL P N w0 ops Q l ((d, .int .u32 ((a &&& b).toNat : Int)) :: e) I G) : WL P N w0 ops Q (⟨some d, .binOp .and T x y T', t, p, af, none⟩ :: l) e I G :=
  bt (.inl rfl) hx hy hd (by subst ha hb; rw [(bits32' a b).2.1]; exact k)
theorem xor32 {x y : Operand} {T T' : TypeId} {m n : Int} {a b : UInt32} (hx : ev e x = some (.int .u32 m)) (hy : ev e y = some (.int .u32 n)) (ha : m = (a.toNat : Int)) (hb : n = (b.toNat : Int)) (hd : Nat.blt d N = true) (k : WL P N w0 ops Q l ((d, .int .u32 ((a ^^^ b).toNat : Int)) :: e) I G) : WL P N w0 ops Q (⟨some d, .binOp .xor T x y T', t, p, af, none⟩ :: l) e I G :=
  bt (.inr (.inr (.inl rfl))) hx hy hd (by subst ha hb; rw [(bits32' a b).1]; exact k)
/-- A field of a struct type lies at an offset, in one cell or in some. -/
def Fd (P : Program) (s : TypeId) (f o n : Nat) (ag : Bool) : Prop := ∀ (cs : Array Value) w, o + n ≤ cs.size → (Instr.field s (.agg cs) f).run P w = .ok (if ag then .agg (cs.extract o (o + n)) else (cs.extract o (o + n)).getD 0 undef) w
theorem fd {s : TypeId} {x : Operand} {f o n : Nat} {ag : Bool} {cs : Array Value} {v : Value} (hF : Fd P s f o n ag) (hx : ev e x = some (.agg cs)) (hn : Nat.ble (o + n) cs.size = true) (hv : (if ag then .agg (cs.extract o (o + n)) else (cs.extract o (o + n)).getD 0 undef) = v) (hd : Nat.blt d N = true) (k : WL P N w0 ops Q l ((d, v) :: e) I G) : WL P N w0 ops Q (⟨some d, .field s x f, t, p, af, none⟩ :: l) e I G :=
  WL.val (fun a w ha => by
    have := hF cs w (by simpa using hn)
    simp [execOp, ha.ev hx, this, ← hv]) hd k
theorem Fd.mk1 {s : TypeId} {f o : Nat} {ft : TypeId} {fs : Array Field} {fdd : Field} (hu : P.underlying s = some (.struct fs)) (hf : fs[f]? = some fdd) (ho : fdd.offset = o) (ht : fdd.type = ft) (hn : NA P ft) : Fd P s f o 1 false := fun cs w h => by
  have h1 : cs[o]? = some ((cs.extract o (o + 1)).getD 0 undef) := by
    have : o < cs.size := by omega
    rw [Array.getElem?_eq_getElem this]
    have h2 : (cs.extract o (o + 1))[0]? = some cs[o] := by rw [Array.getElem?_extract]; simp [this]; omega
    simp [h2]
  simp [Instr.field, run_underlying hu, hf, asAgg, part, ho, ht, hn w, h1]
theorem Fd.mkA {s : TypeId} {f o n : Nat} {ft : TypeId} {fs : Array Field} {fdd : Field} (hu : P.underlying s = some (.struct fs)) (hf : fs[f]? = some fdd) (ho : fdd.offset = o) (ht : fdd.type = ft) (hn : YA P ft n) : Fd P s f o n true := fun cs w h => by
  simp [Instr.field, run_underlying hu, hf, asAgg, part, ho, ht, (hn w).1, (hn w).2]
end
/-- A call that hands back a new slice of bytes. -/
theorem CallsS.fresh {f : FuncId} {args : Array Value} {I : Mem} {G : List Asn} {E : TypeId} {xs : List UInt8} (h : ∀ w, SatW w I G → Calls Try.prog f args w (FreshB w E xs)) :
    CallsS Try.prog f args I G (fun v J G' => ∃ a c, v = .slice a xs.length c ∧ OV E (.slice a xs.length c) xs :: G = G') := fun w hw =>
  (h w hw).mono fun e w' ⟨ao, n, cap, he, hn, ho, hb⟩ => ⟨.slice ao n cap, I, _, he, Mem.le.refl _, ⟨ao, cap, by rw [hn.out], rfl⟩, hw.fresh hb ho hn.out, belowExt hb⟩
theorem CallsS.quiet {f : FuncId} {args : Array Value} {I : Mem} {G : List Asn} {v : Value} (h : ∀ w, SatW w I G → Calls Try.prog f args w fun e w' => e = .returned v ∧ Below w.heap.size w w') :
    CallsS Try.prog f args I G (fun u J G' => u = v ∧ G = G') := fun w hw =>
  (h w hw).mono fun e w' ⟨he, hb⟩ => ⟨v, I, G, he, Mem.le.refl _, ⟨rfl, rfl⟩, hw.below hb, belowExt hb⟩
theorem some_of_if {α : Type} {p : Prop} [Decidable p] {x r : α} (h : (if p then some x else none) = some r) : p ∧ x = r := by
  split at h
  · rename_i hp; exact ⟨hp, Option.some.inj h⟩
  · cases h

theorem W18 {I : Mem} {G : List Asn} {p0 r : List UInt8} (h : bytes_Clone p0 = some r) {u0 : Value} (hp0 : IV I u0 p0) : CallsS Try.prog 18 #[u0] I G (fun v J G' => ∃ a c, v = .slice a r.length c ∧ OV 5 (.slice a r.length c) r :: G = G') := by
  obtain ⟨hl, rfl⟩ := some_of_if h
  refine CallsS.fresh fun w hw => ?_
  obtain ⟨ao, c, rfl, hr⟩ := hp0.reads hw
  exact Cloneb_any ao _ c p0 w hr (by unfold lim14 at hl; omega)
theorem W21 {I : Mem} {G : List Asn} {p0 p1 : List UInt8} {r : Bool} (h : bytes_Equal p0 p1 = some r) {u0 : Value} (hp0 : IV I u0 p0) {u1 : Value} (hp1 : IV I u1 p1) : CallsS Try.prog 21 #[u0, u1] I G (fun v J G' => v = .bool r ∧ G = G') := by
  obtain rfl := Option.some.inj h
  refine CallsS.quiet fun w hw => ?_
  obtain ⟨ao, c, rfl, hr⟩ := hp0.reads hw
  obtain ⟨ao1, c1, rfl, hr1⟩ := hp1.reads hw
  exact (Equalb_any ao ao1 _ c _ c1 p0 p1 w hr hr1).mono fun e w' ⟨he, hb⟩ => ⟨he, by subst hb; exact Below.refl _ _⟩
theorem W45 {I : Mem} {G : List Asn} {p0 : List UInt8} {p1 : Int} {r : List UInt8} (h : slices_Grow_sbyte_byte p0 p1 = some r) : CallsS Try.prog 45 #[.slice none 0 0, .int .i64 p1] I G (fun v J G' => ∃ a c, v = .slice a r.length c ∧ OV 5 (.slice a r.length c) r :: G = G') := by
  obtain ⟨⟨_, h0, h1⟩, rfl⟩ := some_of_if h
  obtain ⟨n, rfl⟩ := Int.eq_ofNat_of_zero_le h0
  intro w hw
  refine (Growb_any n w (by omega)).mono fun e w' ⟨ao, cap, he, ho, hb⟩ => ?_
  exact ⟨_, I, _, he, Mem.le.refl _, ⟨ao, cap, rfl, rfl⟩, hw.fresh (xs := []) hb ho rfl, belowExt hb⟩
theorem W27 {I : Mem} {G : List Asn} {p0 r : List UInt8} (h : sum_Seal p0 = some r) {u0 : Value} (hp0 : IV I u0 p0) : CallsS Try.prog 27 #[u0] I G (fun v J G' => ∃ a c, v = .slice a r.length c ∧ OV 5 (.slice a r.length c) r :: G = G') := by
  obtain ⟨hl, rfl⟩ := some_of_if h
  refine CallsS.fresh fun w hw => ?_
  obtain ⟨ao, c, rfl, hr⟩ := hp0.reads hw
  exact Sealb_any ao _ c p0 w hr hl
theorem open_post {f : FuncId} {args : Array Value} {I : Mem} {G : List Asn} {E : TypeId} {b : List UInt8} (h : ∀ w, SatW w I G → Calls Try.prog f args w (OpenPost w E b)) :
    CallsS Try.prog f args I G (fun v J G' => ∃ a c, v = .tuple #[.slice a (openL b).length c, .bool (openB b)] ∧ OV E (.slice a (openL b).length c) (openL b) :: G = G') := fun w hw =>
  (h w hw).mono fun e w' ⟨ao, n, cap, he, hn, ho, hb⟩ => ⟨_, I, _, he, Mem.le.refl _, ⟨ao, cap, by rw [hn.out], rfl⟩, hw.fresh hb ho hn.out, belowExt hb⟩
theorem W22 {I : Mem} {G : List Asn} {p0 : List UInt8} {r : List UInt8 × Bool} (h : sum_Open p0 = some r) {u0 : Value} (hp0 : IV I u0 p0) : CallsS Try.prog 22 #[u0] I G (fun v J G' => ∃ a c, v = .tuple #[.slice a r.1.length c, .bool r.2] ∧ OV 5 (.slice a r.1.length c) r.1 :: G = G') := by
  obtain ⟨hl, rfl⟩ := some_of_if h
  refine open_post fun w hw => ?_
  obtain ⟨ao, c, rfl, hr⟩ := hp0.reads hw
  exact Openb_any ao _ c p0 w hr hl
theorem W20 {I : Mem} {G : List Asn} {p0 : List UInt8} {p1 : Int} {p2 : UInt32} {r : List UInt8} (h : sum_Spoil p0 p1 p2 = some r) {u0 : Value} (hp0 : IV I u0 p0) : CallsS Try.prog 20 #[u0, .int .i64 p1, .int .u32 (p2.toNat : Int)] I G (fun v J G' => ∃ a c, v = .slice a r.length c ∧ OV 5 (.slice a r.length c) r :: G = G') := by
  obtain ⟨⟨hl, h1, h2⟩, rfl⟩ := some_of_if h
  refine CallsS.fresh fun w hw => ?_
  obtain ⟨ao, c, rfl, hr⟩ := hp0.reads hw
  exact Spoilb_any ao _ c p0 p1 p2 w hr hl h1 h2
end Go.Proofs.Ytcfapdamgbbklaa
