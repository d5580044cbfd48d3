/- A logic of owned and of lasting memory: slices that are made and that grow; calls; the end of a function. -/
import Derived.Test.YtcfapdamgbbklaaSe
import Derived.Laws.Small
import Derived.Laws.Pointers
namespace Go.Proofs.Ytcfapdamgbbklaa
set_option linter.unusedVariables false

/-- Values, one by one. -/
def Rvs {α : Type} [GoT α] (I : Mem) : List Value → List α → Prop
  | [], [] => True
  | v :: vs, x :: xs => Rv I v x ∧ Rvs I vs xs
  | _, _ => False
section
variable {α : Type} [GoT α]
theorem Rvs.len {I : Mem} : ∀ {vs : List Value} {xs : List α}, Rvs I vs xs → vs.length = xs.length
  | [], [], _ => rfl
  | v :: vs, x :: xs, h => by simp [Rvs.len h.2]
  | [], _ :: _, h => h.elim
  | _ :: _, [], h => h.elim
theorem Rvs.size {I : Mem} : ∀ {vs : List Value} {xs : List α}, Rvs I vs xs → ∀ v ∈ vs, v.cells.size = GoT.sz α
  | [], [], _ => by simp
  | v :: vs, x :: xs, h => by
    intro u hu
    rcases List.mem_cons.1 hu with rfl | hu
    · have := GoT.len h.1.cells; simpa using this
    · exact Rvs.size h.2 u hu
  | [], _ :: _, h => h.elim
  | _ :: _, [], h => h.elim
theorem Rvs.rows {I : Mem} : ∀ {vs : List Value} {xs : List α}, Rvs I vs xs → Rows I (vs.flatMap fun v => v.cells.toList) xs
  | [], [], _ => rfl
  | v :: vs, x :: xs, h => ⟨_, _, List.flatMap_cons, h.1.cells, Rvs.rows h.2⟩
  | [], _ :: _, h => h.elim
  | _ :: _, [], h => h.elim
end
theorem bits8' (a b : UInt8) : bits .xor .u8 (a.toNat : Int) (b.toNat : Int) = ((a ^^^ b).toNat : Int) ∧ bits .and .u8 (a.toNat : Int) (b.toNat : Int) = ((a &&& b).toNat : Int) ∧ bits .or .u8 (a.toNat : Int) (b.toNat : Int) = ((a ||| b).toNat : Int) := by
  have e : ∀ x : UInt8, BitVec.ofInt 8 (x.toNat : Int) = x.toBitVec := fun x => by
    rw [BitVec.ofInt_natCast]; exact BitVec.ofNat_toNat _ _
  have hw : ∀ x : UInt8, IntKind.u8.wrap (x.toNat : Int) = (x.toNat : Int) := fun x => by
    have := x.toNat_lt
    simp only [IntKind.wrap, IntKind.bits, IntKind.signed]; simp; omega
  refine ⟨?_, ?_, ?_⟩
  · show IntKind.u8.wrap ((BitVec.ofInt 8 (a.toNat : Int) ^^^ BitVec.ofInt 8 (b.toNat : Int)).toNat : Int) = _
    rw [e, e]; exact hw (a ^^^ b)
  · show IntKind.u8.wrap ((BitVec.ofInt 8 (a.toNat : Int) &&& BitVec.ofInt 8 (b.toNat : Int)).toNat : Int) = _
    rw [e, e]; exact hw (a &&& b)
  · show IntKind.u8.wrap ((BitVec.ofInt 8 (a.toNat : Int) ||| BitVec.ofInt 8 (b.toNat : Int)).toNat : Int) = _
    rw [e, e]; exact hw (a ||| b)
section
variable {P : Program} {N : Nat} {w0 : World} {ops : Array Oper} {Q : Exit → Act → World → Prop} {l : List Oper} {e : Env} {I : Mem} {G : List Asn} {d : Nat} {t : TypeId} {p : String} {af : Array Edge}
section
variable {α : Type} [GoT α] {T E : TypeId} {zv : Value} {kb : Nat}
def numbered : Nat → List Operand → List (Nat × Operand)
  | _, [] => []
  | n, x :: xs => (n, x) :: numbered (n + 1) xs
theorem numbered_map (f : Operand → Value) : ∀ (xs : List Operand) (n : Nat), (numbered n xs).map (fun (i, x) => (i, f x)) = ((xs.map f).zipIdx n).map fun x => (x.2, x.1)
  | [], _ => rfl
  | x :: xs, n => by simp [numbered, numbered_map f xs (n + 1)]
/-- A slice literal, every place written. -/
theorem bs {len : Nat} {parts : List (Nat × Operand)} {os : List Operand} {us : List Value} {xs : List α} (S : ET P T E zv kb α) (hp : parts = numbered 0 os) (hx : evs e os = some us) (hR : Rvs I us xs) (hlen : xs.length = len) (h0 : Nat.blt 0 len = true) (hs : Nat.ble (len * GoT.sz α) 16777216 = true) (hd : Nat.blt d N = true)
    (k : ∀ ao c, WL P N w0 ops Q l ((d, .slice ao xs.length c) :: e) I (OV E (.slice ao xs.length c) xs :: G)) : WL P N w0 ops Q (⟨some d, .buildSlice T len parts.toArray, t, p, af, none⟩ :: l) e I G := WL.eff hd fun a w ha _ hw => by
  obtain ⟨i, hi, hz0, hz1, hz2⟩ := S.parts
  have hpos := GoT.pos (α := α)
  have h0' : 0 < len := by simpa [Nat.blt_eq] using h0
  have hs' : len * GoT.sz α ≤ 16777216 := by simpa using hs
  have hmul : 0 < len * GoT.sz α := Nat.mul_pos h0' hpos
  have hl := hR.len
  have hcs : (parts.toArray.map fun (i, x) => (i, a.eval x)).toList = (us.zipIdx 0).map fun x => (x.2, x.1) := by
    subst hp
    rw [Array.toList_map, List.toList_toArray, numbered_map, ha.evs hx]
  have hf := Great.fill_whole hpos us ((Array.range (len * GoT.sz α)).map (zv.cells[· % zv.cells.size]!)) hR.size (by simp; rw [hl, hlen])
  have hr := run_buildSlice (P := P) w T E len (parts.toArray.map fun (i, x) => (i, a.eval x)) _ i zv S.ht hi hz0 (by rw [hz1]; omega) (by rw [hz1]; omega) (by rw [hcs, hz1]; exact hf)
  have hrows := hR.rows
  have hsat := new_of (E := E) (xs := xs) (off := 0) (cap := xs.length) (C := (us.flatMap fun v => v.cells.toList).toArray) hw ⟨_, [], by simp, hrows, Nat.zero_le _, Nat.le_refl _, by
    have : len * 1 ≤ len * GoT.sz α := Nat.mul_le_mul_left _ hpos
    simp only [maxLen]; omega⟩ (by rw [List.size_toArray, hrows.len]; omega)
  rw [hlen] at hsat
  have kk := k (some ⟨w.heap.size, 0, none⟩) xs.length
  rw [hlen] at kk
  exact ⟨_, _, I, _, by simp only [execOp, Sem.run_bind, hr]; rfl, Ext.alloc _ _, hsat, kk⟩
/-- '[]T{}'. -/
theorem bs0 {parts : List (Nat × Operand)} (S : ET P T E zv kb α) (hp : parts = []) (hd : Nat.blt d N = true) (k : ∀ ao c, WL P N w0 ops Q l ((d, .slice ao 0 c) :: e) I (OV E (.slice ao 0 c) ([] : List α) :: G)) :
    WL P N w0 ops Q (⟨some d, .buildSlice T 0 parts.toArray, t, p, af, none⟩ :: l) e I G := WL.eff hd fun a w ha _ hw => by
  obtain ⟨i, hi, hz0, hz1, hz2⟩ := S.parts
  subst hp
  have hr : (Instr.buildSlice T 0 #[]).run P w = .ok (.slice (some ⟨w.heap.size, 0, none⟩) 0 0) (w.alloc (.cells #[] E)) := by
    simp [Instr.buildSlice, run_underlying S.ht, sizeOf, typeInfo, hi, Instr.fill, newRow]
    congr 2
    exact Array.eq_empty_of_size_eq_zero (by simp)
  have hsat := new_of (α := α) (E := E) (xs := []) (off := 0) (cap := 0) (C := #[]) hw ⟨[], [], by simp, rfl, Nat.zero_le _, Nat.le_refl _, Nat.zero_le _⟩ (by simp)
  exact ⟨_, _, I, _, by simp only [execOp, Sem.run_bind]; simp [hr], Ext.alloc _ _, hsat, k _ _⟩
/-- append, to what one owns. -/
theorem ap {x y : Operand} {v u : Value} {xs ys : List α} (S : ET P T E zv kb α) (hx : ev e x = some v) (hy : ev e y = some u) (hR : Rd I (OV E v xs :: G) u ys) (hk : fits (xs.length + ys.length) kb ∧ xs.length + ys.length ≤ 140737488355328) (hd : Nat.blt d N = true)
    (k : ∀ ao c, WL P N w0 ops Q l ((d, .slice ao (xs ++ ys).length c) :: e) I (OV E (.slice ao (xs ++ ys).length c) (xs ++ ys) :: G)) : WL P N w0 ops Q (⟨some d, .call { callee := .builtin .append, args := #[x, y], argTypes := #[T, T] }, t, p, af, none⟩ :: l) e I (OV E v xs :: G) := WL.eff hd fun a w ha _ hw => by
  obtain ⟨v', w', hr, hs, hE⟩ := run_app S t hw (hR w hw) hk.1 hk.2
  obtain ⟨m, _, hv⟩ := hs.at (k := 0) rfl
  obtain ⟨ao, c, rfl⟩ := OV.hd_of hv
  exact ⟨_, w', I, _, by simp [execOp, resolve, invoke, builtin, ha.ev hx, ha.ev hy, hr], hE, hs, k ao c⟩
theorem made_rows {I : Mem} {z : α} (hz : GoT.rep I zv.cells.toList z) (hsz : zv.cells.size = GoT.sz α) : ∀ n, Rows I (madeCells zv.cells (n * GoT.sz α)).toList (List.replicate n z)
  | 0 => by simp [madeCells, Rows]
  | n + 1 => by
    have ih := made_rows hz hsz n
    refine ⟨zv.cells.toList, (madeCells zv.cells (n * GoT.sz α)).toList, ?_, hz, ih⟩
    have hpos := GoT.pos (α := α)
    refine List.ext_getElem (by simp [madeCells, Nat.add_mul, hsz]; omega) fun j h1 h2 => ?_
    simp only [madeCells, Array.toList_map, Array.toList_range, List.getElem_map, List.getElem_range]
    by_cases hj : j < GoT.sz α
    · rw [List.getElem_append_left (by simpa [hsz] using hj)]
      rw [Nat.mod_eq_of_lt (by omega)]
      simp [hsz, hj]
    · rw [List.getElem_append_right (by simp [hsz]; omega)]
      simp only [List.getElem_map, List.getElem_range, Array.length_toList]
      rw [Nat.mod_eq_sub_mod (by omega)]
theorem ms {x y : Operand} {m c : Int} {kx ky : IntKind} {z : α} (S : ET P T E zv kb α) (hz : GoT.rep I zv.cells.toList z) (hx : ev e x = some (.int kx m)) (hy : ev e y = some (.int ky c)) (hc : m = c) (h0 : 0 ≤ m ∧ fits m.toNat kb ∧ m ≤ 140737488355328) (hd : Nat.blt d N = true)
    (k : ∀ ao c, WL P N w0 ops Q l ((d, .slice ao (List.replicate m.toNat z).length c) :: e) I (OV E (.slice ao (List.replicate m.toNat z).length c) (List.replicate m.toNat z) :: G)) : WL P N w0 ops Q (⟨some d, .makeSlice T x y, t, p, af, none⟩ :: l) e I G := WL.eff hd fun a w ha _ hw => by
  obtain ⟨i, hi, hz0, hz1, hz2⟩ := S.parts
  subst hc
  obtain ⟨n, rfl⟩ := Int.eq_ofNat_of_zero_le h0.1
  simp only [Int.toNat_natCast] at *
  have hb : n * kb ≤ 140737488355328 := h0.2.1
  have hr := run_make (P := P) w T E i zv S.ht hi hz0 kx ky n n (by omega) (by omega) (by rw [hz2, Int.mul_comm]; omega) (by omega)
  have hl : (List.replicate n z).length = n := List.length_replicate
  have hsat := new_of (E := E) (xs := List.replicate n z) (off := 0) (cap := n) (C := madeCells zv.cells (n * GoT.sz α)) hw ⟨_, [], by simp, made_rows hz S.hz n, Nat.zero_le _, by omega, by simp only [maxLen]; omega⟩ (by simp [madeCells])
  rw [Int.toNat_natCast, hz1] at hr
  have kk := k (some ⟨w.heap.size, 0, none⟩) n
  rw [hl] at kk hsat
  exact ⟨_, _, I, _, by simp only [execOp, ha.ev hx, ha.ev hy, Sem.run_bind, hr]; rfl, Ext.alloc _ _, hsat, kk⟩
end

/-- A function that is entered when it is called. -/
def Cl (P : Program) (f : FuncId) : Prop := ∀ args w, (callFunc f args).run P w = .ok (.enter f args) w
theorem Cl.mk {f : FuncId} {fn : Func} {c : Code} (hf : P.funcs[f]? = some fn) (hb : fn.body = some c) (hn : (fn.name == "runtime.NumGoroutine") = false) : Cl P f := fun args w => by
  have hn' : ¬ fn.name = "runtime.NumGoroutine" := by simpa using hn
  simp [callFunc, hf, hb, hn']
theorem WL.callV {f : FuncId} {cx : Operand} {os : List Operand} {ty : Array TypeId} {args : List Value} {dd : Option Nat} {R : Value → Mem → List Asn → Prop} (hC : Cl P f) (hcx : ev e cx = some (.func (.func f) #[] #[])) (hx : evs e os = some args) (h : CallsS P f args.toArray I G R)
    (k : ∀ v J G', Mem.le I J → R v J G' → ∀ a w, (∃ a0, Good N e a0 ∧ a = a0.put dd v) → Ext w0 w → SatW w J G' → wpList P ops Q l a w) :
    WL P N w0 ops Q (⟨dd, .call { callee := .value cx, args := os.toArray, argTypes := ty }, t, p, af, none⟩ :: l) e I G := fun a w ha hx' hw => by
  unfold wpList
  rw [if_pos (by simp [Region.wanted])]
  refine .inl ?_
  unfold Oper.wp
  have hargs : os.toArray.map a.eval = args.toArray := by rw [List.map_toArray, ha.evs hx]
  have hr : (execOp a.eval ⟨dd, .call { callee := .value cx, args := os.toArray, argTypes := ty }, t, p, af, none⟩).run P w = .ok (.enter f args.toArray) w := by
    have h1 := hC args.toArray w
    simp only [execOp, resolve, hargs, ha.ev hcx]
    simp [Deferred.ofValue, invoke, h1]
  rw [hr]
  refine (h w hw).mono fun e' w' ⟨v, J, G', he, hJ, hRv, hs, hE⟩ => ?_
  subst he
  exact k v J G' hJ hRv _ _ ⟨a, ha, rfl⟩ (hx'.trans hE) hs
/-- A call of a function that lies in a slot. -/
theorem callv {f : FuncId} {cx : Operand} {os : List Operand} {ty : Array TypeId} {args : List Value} {R : Value → Mem → List Asn → Prop} (hC : Cl P f) (hcx : ev e cx = some (.func (.func f) #[] #[])) (hx : evs e os = some args) (hd : Nat.blt d N = true) (h : CallsS P f args.toArray I G R)
    (k : ∀ v J G', Mem.le I J → R v J G' → WL P N w0 ops Q l ((d, v) :: e) J G') : WL P N w0 ops Q (⟨some d, .call { callee := .value cx, args := os.toArray, argTypes := ty }, t, p, af, none⟩ :: l) e I G :=
  WL.callV hC hcx hx h fun v J G' hJ hR a w ⟨a0, h0, ha⟩ hx hw => k v J G' hJ hR a w (by subst ha; exact h0.put hd v) hx hw
theorem WL.callW {f : FuncId} {os : List Operand} {ty : Array TypeId} {args : List Value} {dd : Option Nat} {R : Value → Mem → List Asn → Prop} (hC : Cl P f) (hx : evs e os = some args) (h : CallsS P f args.toArray I G R)
    (k : ∀ v J G', Mem.le I J → R v J G' → ∀ a w, (∃ a0, Good N e a0 ∧ a = a0.put dd v) → Ext w0 w → SatW w J G' → wpList P ops Q l a w) :
    WL P N w0 ops Q (⟨dd, .call { callee := .value (.func f), args := os.toArray, argTypes := ty }, t, p, af, none⟩ :: l) e I G := fun a w ha hx' hw => by
  unfold wpList
  rw [if_pos (by simp [Region.wanted])]
  refine .inl ?_
  unfold Oper.wp
  have hargs : os.toArray.map a.eval = args.toArray := by rw [List.map_toArray, ha.evs hx]
  have hr : (execOp a.eval ⟨dd, .call { callee := .value (.func f), args := os.toArray, argTypes := ty }, t, p, af, none⟩).run P w = .ok (.enter f args.toArray) w := by
    have h1 := hC args.toArray w
    simp only [execOp, resolve, hargs]
    simp [Act.eval, Deferred.ofValue, invoke, h1]
  rw [hr]
  refine (h w hw).mono fun e' w' ⟨v, J, G', he, hJ, hRv, hs, hE⟩ => ?_
  subst he
  exact k v J G' hJ hRv _ _ ⟨a, ha, rfl⟩ (hx'.trans hE) hs
theorem call {f : FuncId} {os : List Operand} {ty : Array TypeId} {args : List Value} {R : Value → Mem → List Asn → Prop} (hC : Cl P f) (hx : evs e os = some args) (hd : Nat.blt d N = true) (h : CallsS P f args.toArray I G R)
    (k : ∀ v J G', Mem.le I J → R v J G' → WL P N w0 ops Q l ((d, v) :: e) J G') : WL P N w0 ops Q (⟨some d, .call { callee := .value (.func f), args := os.toArray, argTypes := ty }, t, p, af, none⟩ :: l) e I G :=
  WL.callW hC hx h fun v J G' hJ hR a w ⟨a0, h0, ha⟩ hx hw => k v J G' hJ hR a w (by subst ha; exact h0.put hd v) hx hw
theorem call0 {f : FuncId} {os : List Operand} {ty : Array TypeId} {args : List Value} {R : Value → Mem → List Asn → Prop} (hC : Cl P f) (hx : evs e os = some args) (h : CallsS P f args.toArray I G R)
    (k : ∀ v J G', Mem.le I J → R v J G' → WL P N w0 ops Q l e J G') : WL P N w0 ops Q (⟨none, .call { callee := .value (.func f), args := os.toArray, argTypes := ty }, t, p, af, none⟩ :: l) e I G :=
  WL.callW hC hx h fun v J G' hJ hR a w ⟨a0, h0, ha⟩ hx hw => k v J G' hJ hR a w (by subst ha; exact h0.put_none v) hx hw

/-! ### The end -/
variable {fn : Func} {R : Value → Mem → List Asn → Prop} {I0 : Mem}
theorem ret1 {s : Nat} {v : Value} (hr : fn.results = #[.tmp s]) (hv : look e s = some v) (hI : Mem.le I0 I) (h : R v I G) : WX N w0 .ret (bodyPost P fn (postOf w0 I0 R)) e I G := fun a w ha hx hw =>
  ⟨ha.1, v, by simp [results, hr, ha.2.2 _ _ hv], v, I, G, rfl, hI, h, hw, hx⟩
theorem ret2 {s s' : Nat} {v v' : Value} (hr : fn.results = #[.tmp s, .tmp s']) (hv : look e s = some v) (hv' : look e s' = some v') (hI : Mem.le I0 I) (h : R (.tuple #[v, v']) I G) : WX N w0 .ret (bodyPost P fn (postOf w0 I0 R)) e I G := fun a w ha hx hw =>
  ⟨ha.1, _, by simp [results, hr, ha.2.2 _ _ hv, ha.2.2 _ _ hv'], _, I, G, rfl, hI, h, hw, hx⟩
theorem ret3 {s s' s'' : Nat} {v v' v'' : Value} (hr : fn.results = #[.tmp s, .tmp s', .tmp s'']) (hv : look e s = some v) (hv' : look e s' = some v') (hv'' : look e s'' = some v'') (hI : Mem.le I0 I) (h : R (.tuple #[v, v', v'']) I G) : WX N w0 .ret (bodyPost P fn (postOf w0 I0 R)) e I G := fun a w ha hx hw =>
  ⟨ha.1, _, by simp [results, hr, ha.2.2 _ _ hv, ha.2.2 _ _ hv', ha.2.2 _ _ hv''], _, I, G, rfl, hI, h, hw, hx⟩
theorem ret0 (hr : fn.results = #[]) (hI : Mem.le I0 I) (h : R (.tuple #[]) I G) : WX N w0 .ret (bodyPost P fn (postOf w0 I0 R)) e I G := fun a w ha hx hw =>
  ⟨ha.1, _, by simp [results, hr], _, I, G, rfl, hI, h, hw, hx⟩
theorem end0 (hr : fn.results = #[]) (hI : Mem.le I0 I) (h : R (.tuple #[]) I G) : WX N w0 .normal (bodyPost P fn (postOf w0 I0 R)) e I G := fun a w ha hx hw =>
  ⟨ha.1, _, by simp [results, hr], _, I, G, rfl, hI, h, hw, hx⟩
/-- A result that lies in memory. -/
def RC (P : Program) (w : World) (tm : Array Value) : ResultVar → Value → Prop
  | .tmp s, v => tm[s]? = some v
  | .cell s T, v => ∃ a, tm[s]? = some (.pointer (some a)) ∧ (loadVar T a).run P w = .ok v w
theorem run_loadVar {w : World} {T : TypeId} {a : Addr} : (Instr.loadAt T (.pointer (some a))).run P w = (loadVar T a).run P w := by simp [Instr.loadAt, Instr.sureAddr]
theorem RC.cellA {a : Act} {w : World} {s g n : Nat} {T : TypeId} {C : Array Value} {E : TypeId} (ha : Good N e a) (hw : SatW w I G) (kk : Nat) (hs : look e s = some (.pointer (some ⟨g, 0, none⟩))) (hT : YA P T n) (hk : G[kk]? = some (bl g C E)) (hn : C.size = n) : RC P w a.tmps (.cell s T) (.agg C) := by
  have h := run_loadn (P := P) (w := w) (T := T) (a := ⟨g, 0, none⟩) (n := n) (cs := C.toList) hT (by simpa using hn) (fun j u hj => by rw [Addr.add_lit, Nat.zero_add]; exact cell_of (hw.own_k hk) (by simpa using hj))
  rw [run_loadVar] at h
  exact ⟨_, ha.2.2 _ _ hs, h⟩
theorem RC.cell1 {a : Act} {w : World} {s g : Nat} {T : TypeId} {C : Array Value} {E : TypeId} {v : Value} (ha : Good N e a) (hw : SatW w I G) (kk : Nat) (hs : look e s = some (.pointer (some ⟨g, 0, none⟩))) (hT : NA P T) (hk : G[kk]? = some (bl g C E)) (hv : C[0]? = some v) : RC P w a.tmps (.cell s T) v := by
  have h := run_load1 (P := P) (w := w) (T := T) (a := ⟨g, 0, none⟩) hT (cell_of (hw.own_k hk) hv)
  rw [run_loadVar] at h
  exact ⟨_, ha.2.2 _ _ hs, h⟩
theorem RC.tmp {a : Act} {w : World} {s : Nat} {v : Value} (ha : Good N e a) (hs : look e s = some v) : RC P w a.tmps (.tmp s) v := ha.2.2 _ _ hs
theorem retC1 {r : ResultVar} {v : Value} (hr : fn.results = #[r]) (hv : ∀ a w, Good N e a → SatW w I G → RC P w a.tmps r v) (hI : Mem.le I0 I) (h : R v I G) : WX N w0 .ret (bodyPost P fn (postOf w0 I0 R)) e I G := fun a w ha hx hw => by
  have hv' := hv a w ha hw
  refine ⟨ha.1, v, ?_, v, I, G, rfl, hI, h, hw, hx⟩
  cases r with
  | tmp s => simp [results, hr, show a.tmps[s]? = some v from hv']
  | cell s T =>
    obtain ⟨b, h1, h2⟩ := hv'
    simp [results, hr, h1, asAddr, h2]
theorem retC2 {r r' : ResultVar} {v v' : Value} (hr : fn.results = #[r, r']) (hv : ∀ a w, Good N e a → SatW w I G → RC P w a.tmps r v ∧ RC P w a.tmps r' v') (hI : Mem.le I0 I) (h : R (.tuple #[v, v']) I G) : WX N w0 .ret (bodyPost P fn (postOf w0 I0 R)) e I G := fun a w ha hx hw => by
  obtain ⟨hv1, hv2⟩ := hv a w ha hw
  refine ⟨ha.1, _, ?_, _, I, G, rfl, hI, h, hw, hx⟩
  cases r with
  | tmp s =>
    have h1 : a.tmps[s]? = some v := hv1
    cases r' with
    | tmp s' => simp [results, hr, h1, show a.tmps[s']? = some v' from hv2]
    | cell s' T' =>
      obtain ⟨b', h2, h3⟩ := hv2
      simp [results, hr, h1, h2, asAddr, h3]
  | cell s T =>
    obtain ⟨b, h1, h4⟩ := hv1
    cases r' with
    | tmp s' => simp [results, hr, h1, asAddr, h4, show a.tmps[s']? = some v' from hv2]
    | cell s' T' =>
      obtain ⟨b', h2, h3⟩ := hv2
      simp [results, hr, h1, asAddr, h4, h2, h3]

theorem retC1x {r : ResultVar} {v : Value} {H : List Asn} (hr : fn.results = #[r]) (hv : ∀ a w, Good N e a → SatW w I G → RC P w a.tmps r v) (hG : ∀ w, SatW w I G → SatW w I H) (hI : Mem.le I0 I) (h : R v I H) : WX N w0 .ret (bodyPost P fn (postOf w0 I0 R)) e I G := fun a w ha hx hw => by
  have hv' := hv a w ha hw
  refine ⟨ha.1, v, ?_, v, I, H, rfl, hI, h, hG w hw, hx⟩
  cases r with
  | tmp s => simp [results, hr, show a.tmps[s]? = some v from hv']
  | cell s T =>
    obtain ⟨b, h1, h2⟩ := hv'
    simp [results, hr, h1, asAddr, h2]
theorem retC2x {r r' : ResultVar} {v v' : Value} {H : List Asn} (hr : fn.results = #[r, r']) (hv : ∀ a w, Good N e a → SatW w I G → RC P w a.tmps r v ∧ RC P w a.tmps r' v') (hG : ∀ w, SatW w I G → SatW w I H) (hI : Mem.le I0 I) (h : R (.tuple #[v, v']) I H) : WX N w0 .ret (bodyPost P fn (postOf w0 I0 R)) e I G := fun a w ha hx hw => by
  obtain ⟨b, c, d, v2, J, G', h1, h2, h3, h4, h5⟩ := retC2 (R := fun u J G' => u = .tuple #[v, v'] ∧ J = I ∧ G' = G) (I0 := I0) hr hv hI ⟨rfl, rfl, rfl⟩ a w ha hx hw
  obtain ⟨rfl, rfl, rfl⟩ := h3
  exact ⟨b, c, d, _, J, H, h1, hI, h, hG w h4, h5⟩
/-! ### More operations -/
theorem mi {x y : Operand} {ty : Array TypeId} {kd : IntKind} {m n : Int} (hx : ev e x = some (.int kd m)) (hy : ev e y = some (.int kd n)) (hd : Nat.blt d N = true) (k : WL P N w0 ops Q l ((d, .int kd (if n < m then n else m)) :: e) I G) : WL P N w0 ops Q (⟨some d, .call { callee := .builtin .min, args := #[x, y], argTypes := ty }, t, p, af, none⟩ :: l) e I G :=
  WL.val (fun a w ha => by
    simp [execOp, resolve, invoke, builtin, Builtin.min_, Builtin.min2, ha.ev hx, ha.ev hy]) hd k
theorem be {x y : Operand} {T T' : TypeId} {m n : Bool} (hT : P.underlying T = some .bool) (hx : ev e x = some (.bool m)) (hy : ev e y = some (.bool n)) (hd : Nat.blt d N = true) (k : WL P N w0 ops Q l ((d, .bool (m == n)) :: e) I G) : WL P N w0 ops Q (⟨some d, .binOp .eql T x y T', t, p, af, none⟩ :: l) e I G :=
  bin (fun w => by
    have hb : binOp .eql T (.bool m) (.bool n) = (do pure (.bool (← Op.equal T (.bool m) (.bool n)))) := rfl
    simp [eqGuard, hb, run_equal_bool w T m n hT]) hx hy hd k
theorem bn {x y : Operand} {T T' : TypeId} {m n : Bool} (hT : P.underlying T = some .bool) (hx : ev e x = some (.bool m)) (hy : ev e y = some (.bool n)) (hd : Nat.blt d N = true) (k : WL P N w0 ops Q l ((d, .bool (!(m == n))) :: e) I G) : WL P N w0 ops Q (⟨some d, .binOp .neq T x y T', t, p, af, none⟩ :: l) e I G :=
  bin (fun w => by
    have hb : binOp .neq T (.bool m) (.bool n) = (do pure (.bool (!(← Op.equal T (.bool m) (.bool n))))) := rfl
    simp [eqGuard, hb, run_equal_bool w T m n hT]) hx hy hd k
/-- A pointer against nil. -/
theorem pe {x y : Operand} {T T' : TypeId} {m : Option Addr} (hT : P.underlying T = some (.pointer (P.pointee T))) (hx : ev e x = some (.pointer m)) (hy : ev e y = some (.pointer none)) (hd : Nat.blt d N = true) (k : WL P N w0 ops Q l ((d, .bool m.isNone) :: e) I G) : WL P N w0 ops Q (⟨some d, .binOp .eql T x y T', t, p, af, none⟩ :: l) e I G :=
  bin (fun w => by
    have hb : binOp .eql T (.pointer m) (.pointer none) = (do pure (.bool (← Op.equal T (.pointer m) (.pointer none)))) := rfl
    simp [eqGuard, hb, run_equal_pointer_nil w T m hT]) hx hy hd k
theorem pn {x y : Operand} {T T' : TypeId} {m : Option Addr} (hT : P.underlying T = some (.pointer (P.pointee T))) (hx : ev e x = some (.pointer m)) (hy : ev e y = some (.pointer none)) (hd : Nat.blt d N = true) (k : WL P N w0 ops Q l ((d, .bool (!m.isNone)) :: e) I G) : WL P N w0 ops Q (⟨some d, .binOp .neq T x y T', t, p, af, none⟩ :: l) e I G :=
  bin (fun w => by
    have hb : binOp .neq T (.pointer m) (.pointer none) = (do pure (.bool (!(← Op.equal T (.pointer m) (.pointer none))))) := rfl
    simp [eqGuard, hb, run_equal_pointer_nil w T m hT]) hx hy hd k

/-! ### What a printed walk leans on -/
theorem bnd {α β : Type} {x : Option α} {f : α → Option β} {r : β} (h : x.bind f = some r) : ∃ y, x = some y ∧ f y = some r := Option.bind_eq_some_iff.1 h
theorem chk {α : Type} {p : Prop} [Decidable p] {x : Option α} {r : α} (h : (if p then x else none) = some r) : p ∧ x = some r := by
  split at h
  · rename_i hp; exact ⟨hp, h⟩
  · cases h
theorem spl {α : Type} {p : Prop} [Decidable p] {x y : Option α} {r : α} (h : (if p then x else y) = some r) : (p ∧ x = some r) ∨ (¬ p ∧ y = some r) := by
  split at h
  · rename_i hp; exact .inl ⟨hp, h⟩
  · rename_i hp; exact .inr ⟨hp, h⟩
theorem bT {p : Prop} [Decidable p] (h : p) : Value.bool (decide p) = .bool true := by simp [h]
theorem bF {p : Prop} [Decidable p] (h : ¬ p) : Value.bool (decide p) = .bool false := by simp [h]
theorem bt1 {b : Bool} (h : b = true) : Value.bool b = .bool true := by rw [h]
theorem bf1 {b : Bool} (h : ¬ b = true) : Value.bool b = .bool false := by cases b <;> first | rfl | exact absurd rfl h
/-- A slot's value, said otherwise. -/
theorem Good.rb {a : Act} (h : Good N e a) {s : Nat} {v u : Value} (hs : look e s = some v) (hu : v = u) : Good N ((s, u) :: e) a := by
  refine ⟨h.1, h.2.1, fun t w k => ?_⟩
  simp only [look] at k
  cases hb : Nat.beq s t with
  | true =>
    rw [hb] at k
    obtain rfl := Nat.eq_of_beq_eq_true hb
    simp at k
    rw [← k, ← hu]; exact h.2.2 _ _ hs
  | false => rw [hb] at k; exact h.2.2 t w (by simpa using k)
theorem WL.rb {v u : Value} (s : Nat) (hs : look e s = some v) (hu : v = u) (k : WL P N w0 ops Q l ((s, u) :: e) I G) : WL P N w0 ops Q l e I G := fun a w ha hx hw => k a w (ha.rb hs hu) hx hw
theorem WC.rb {c : Code} {v u : Value} (s : Nat) (hs : look e s = some v) (hu : v = u) (k : WC P N w0 c Q ((s, u) :: e) I G) : WC P N w0 c Q e I G := fun a w ha hx hw => k a w (ha.rb hs hu) hx hw
theorem WX.rb {x : Exit} {v u : Value} (s : Nat) (hs : look e s = some v) (hu : v = u) (k : WX N w0 x Q ((s, u) :: e) I G) : WX N w0 x Q e I G := fun a w ha hx hw => k a w (ha.rb hs hu) hx hw
theorem sat.del : ∀ (k : Nat) {G : List Asn} {I h : Mem}, sat G I h → sat (G.eraseIdx k) I h
  | _, [], _, _, x => x
  | 0, A :: G, I, h, ⟨h1, h2, a, b, c, d, f⟩ => sat.wide c f
  | k + 1, A :: G, I, h, x => sat.under (fun _ => sat.del k) x
theorem SatW.del {w : World} (k : Nat) (h : SatW w I G) : SatW w I (G.eraseIdx k) := by
  obtain ⟨m, a, b, c, f⟩ := h
  exact ⟨m, a, b, c, f.del k⟩
theorem WL.del (k : Nat) (h : WL P N w0 ops Q l e I (G.eraseIdx k)) : WL P N w0 ops Q l e I G := fun a w ha hx hw => h a w ha hx (hw.del k)
theorem WC.del {c : Code} (k : Nat) (h : WC P N w0 c Q e I (G.eraseIdx k)) : WC P N w0 c Q e I G := fun a w ha hx hw => h a w ha hx (hw.del k)
theorem WX.del {x : Exit} (k : Nat) (h : WX N w0 x Q e I (G.eraseIdx k)) : WX N w0 x Q e I G := fun a w ha hx hw => h a w ha hx (hw.del k)
/-- What is owned, said otherwise. -/
theorem WL.conv {H : List Asn} (f : ∀ w, SatW w I G → SatW w I H) (h : WL P N w0 ops Q l e I H) : WL P N w0 ops Q l e I G := fun a w ha hx hw => h a w ha hx (f w hw)
theorem WC.conv {c : Code} {H : List Asn} (f : ∀ w, SatW w I G → SatW w I H) (h : WC P N w0 c Q e I H) : WC P N w0 c Q e I G := fun a w ha hx hw => h a w ha hx (f w hw)
theorem WX.conv {x : Exit} {H : List Asn} (f : ∀ w, SatW w I G → SatW w I H) (h : WX N w0 x Q e I H) : WX N w0 x Q e I G := fun a w ha hx hw => h a w ha hx (f w hw)
theorem WX.is {x : Exit} {H : List Asn} (hG : G = H) (h : WX N w0 x Q e I H) : WX N w0 x Q e I G := by subst hG; exact h
/-- Where ways meet. -/
theorem WC.join {σ : Type} {c b : Code} (E : σ → Env) (H : σ → List Asn) (V : σ → Mem → Prop) (h1 : (∀ s J, Mem.le I J → V s J → WC P N w0 b Q (E s) J (H s)) → WC P N w0 c (Exit.then (b.wp P Q) Q) e I G)
    (h2 : ∀ s J, Mem.le I J → V s J → WC P N w0 b Q (E s) J (H s)) : WC P N w0 c (Exit.then (b.wp P Q) Q) e I G := h1 h2
theorem WC.joinQ {σ : Type} {c : Code} (E : σ → Env) (H : σ → List Asn) (V : σ → Mem → Prop) (h1 : (∀ s J, Mem.le I J → V s J → WX N w0 .normal Q (E s) J (H s)) → WC P N w0 c Q e I G)
    (h2 : ∀ s J, Mem.le I J → V s J → WX N w0 .normal Q (E s) J (H s)) : WC P N w0 c Q e I G := h1 h2
/-- The fields of an object become known. -/
theorem WL.open_ {σ : Type} {A : Asn} {B : σ → Asn} {V : σ → Mem → Prop} (f : ∀ I h, A.val I h → ∃ s, V s I ∧ (B s).val I h) (k : ∀ s, V s I → WL P N w0 ops Q l e I (B s :: G)) : WL P N w0 ops Q l e I (A :: G) := fun a w ha hx ⟨m, x1, x2, x3, h1, h2, x4, x5, x6, x7, x8⟩ => by
  obtain ⟨s, hs, hb⟩ := f _ _ x7
  exact k s hs a w ha hx ⟨m, x1, x2, x3, h1, h2, x4, x5, x6, hb, x8⟩
theorem WC.open_ {σ : Type} {c : Code} {A : Asn} {B : σ → Asn} {V : σ → Mem → Prop} (f : ∀ I h, A.val I h → ∃ s, V s I ∧ (B s).val I h) (k : ∀ s, V s I → WC P N w0 c Q e I (B s :: G)) : WC P N w0 c Q e I (A :: G) := fun a w ha hx ⟨m, x1, x2, x3, h1, h2, x4, x5, x6, x7, x8⟩ => by
  obtain ⟨s, hs, hb⟩ := f _ _ x7
  exact k s hs a w ha hx ⟨m, x1, x2, x3, h1, h2, x4, x5, x6, hb, x8⟩
theorem WL.ren {α : Type} [GoT α] {E : TypeId} {ao : Option Addr} {cp : Nat} {xs ys : List α} (h : xs = ys) (k : WL P N w0 ops Q l ((d, .slice ao ys.length cp) :: e) I (OV E (.slice ao ys.length cp) ys :: G)) : WL P N w0 ops Q l ((d, .slice ao xs.length cp) :: e) I (OV E (.slice ao xs.length cp) xs :: G) := by subst h; exact k
theorem WL.nu {op : Op} {j dj : Nat} {b : Bool} (hj : (ops[j]?).bind (·.dst) = some dj) (hv : look e dj = some undef) (hd : Nat.blt d N = true) (k : WL P N w0 ops Q l ((d, undef) :: e) I G) :
    WL P N w0 ops Q (⟨some d, op, t, p, af, some (j, b)⟩ :: l) e I G := fun a w ha hx hw => by
  unfold wpList
  have hy : yielded ops a.tmps j = none := by unfold yielded; rw [hj]; simp [ha.2.2 _ _ hv, undef]
  rw [if_neg (by simp [Region.wanted, hy])]
  exact k _ _ (ha.put hd undef) hx hw
theorem WC.iten {α : Type} {c : Operand} {x y : Code} {p : Prop} [Decidable p] {r1 r2 : Option α} {r : α} (hc : ev e c = some (.bool (!decide p))) (h : (if p then r1 else r2) = some r)
    (ht : p → r1 = some r → WC P N w0 y Q e I G) (hf : ¬ p → r2 = some r → WC P N w0 x Q e I G) : WC P N w0 (.cond c x y) Q e I G :=
  WC.cond hc (fun k => by have hp : ¬ p := by simpa using k
                          rw [if_neg hp] at h; exact hf hp h) (fun k => by have hp : p := by simpa using k
                                                                           rw [if_pos hp] at h; exact ht hp h)
theorem WC.itebn {α : Type} {c : Operand} {x y : Code} {b : Bool} {r1 r2 : Option α} {r : α} (hc : ev e c = some (.bool (!b))) (h : (if b = true then r1 else r2) = some r)
    (ht : b = true → r1 = some r → WC P N w0 y Q e I G) (hf : ¬ b = true → r2 = some r → WC P N w0 x Q e I G) : WC P N w0 (.cond c x y) Q e I G :=
  WC.cond hc (fun k => by have hb : ¬ b = true := by cases b <;> simp at k ⊢
                          rw [if_neg hb] at h; exact hf hb h) (fun k => by have hb : b = true := by cases b <;> simp at k ⊢
                                                                           rw [if_pos hb] at h; exact ht hb h)
theorem bTn {p : Prop} [Decidable p] (h : p) : Value.bool (!decide p) = .bool false := by simp [h]
theorem bFn {p : Prop} [Decidable p] (h : ¬ p) : Value.bool (!decide p) = .bool true := by simp [h]
theorem bt1n {b : Bool} (h : b = true) : Value.bool (!b) = .bool false := by rw [h]; rfl
theorem bf1n {b : Bool} (h : ¬ b = true) : Value.bool (!b) = .bool true := by cases b <;> first | rfl | exact absurd rfl h
theorem or8 {x y : Operand} {T T' : TypeId} {m n : Int} {a b : UInt8} (hx : ev e x = some (.int .u8 m)) (hy : ev e y = some (.int .u8 n)) (ha : m = (a.toNat : Int)) (hb : n = (b.toNat : Int)) (hd : Nat.blt d N = true) (k : WL P N w0 ops Q l ((d, .int .u8 ((a ||| b).toNat : Int)) :: e) I G) : WL P N w0 ops Q (⟨some d, .binOp .or T x y T', t, p, af, none⟩ :: l) e I G :=
  bt (.inr (.inl rfl)) hx hy hd (by subst ha hb; rw [(bits8' a b).2.2]; exact k)
theorem and8 {x y : Operand} {T T' : TypeId} {m n : Int} {a b : UInt8} (hx : ev e x = some (.int .u8 m)) (hy : ev e y = some (.int .u8 n)) (ha : m = (a.toNat : Int)) (hb : n = (b.toNat : Int)) (hd : Nat.blt d N = true) (k : WL P N w0 ops Q l ((d, .int .u8 ((a &&& b).toNat : Int)) :: e) I G) : WL P N w0 ops Q (⟨some d, .binOp .and T x y T', t, p, af, none⟩ :: l) e I G :=
  bt (.inl rfl) hx hy hd (by subst ha hb; rw [(bits8' a b).2.1]; exact k)
theorem xor8 {x y : Operand} {T T' : TypeId} {m n : Int} {a b : UInt8} (hx : ev e x = some (.int .u8 m)) (hy : ev e y = some (.int .u8 n)) (ha : m = (a.toNat : Int)) (hb : n = (b.toNat : Int)) (hd : Nat.blt d N = true) (k : WL P N w0 ops Q l ((d, .int .u8 ((a ^^^ b).toNat : Int)) :: e) I G) : WL P N w0 ops Q (⟨some d, .binOp .xor T x y T', t, p, af, none⟩ :: l) e I G :=
  bt (.inr (.inr (.inl rfl))) hx hy hd (by subst ha hb; rw [(bits8' a b).1]; exact k)
theorem srb {x y : Operand} {T T' : TypeId} {ky : IntKind} {m n : Int} {a : UInt8} (h0 : 0 ≤ n) (hx : ev e x = some (.int .u8 m)) (hy : ev e y = some (.int ky n)) (ha : m = (a.toNat : Int)) (hd : Nat.blt d N = true) (k : WL P N w0 ops Q l ((d, .int .u8 ((sr8 a n).toNat : Int)) :: e) I G) : WL P N w0 ops Q (⟨some d, .binOp .shr T x y T', t, p, af, none⟩ :: l) e I G :=
  sr h0 hx hy hd (by subst ha; rw [show (a.toNat : Int).fdiv (2 ^ min n.toNat IntKind.u8.bits) = ((sr8 a n).toNat : Int) from sr8_val a n]; exact k)
theorem slb {x y : Operand} {T T' : TypeId} {ky : IntKind} {m n : Int} {a : UInt8} (h0 : 0 ≤ n) (hx : ev e x = some (.int .u8 m)) (hy : ev e y = some (.int ky n)) (ha : m = (a.toNat : Int)) (hd : Nat.blt d N = true) (k : WL P N w0 ops Q l ((d, .int .u8 ((sl8 a n).toNat : Int)) :: e) I G) : WL P N w0 ops Q (⟨some d, .binOp .shl T x y T', t, p, af, none⟩ :: l) e I G :=
  sl h0 hx hy hd (by
    subst ha
    have : IntKind.u8.wrap ((a.toNat : Int) * 2 ^ min n.toNat IntKind.u8.bits) = ((sl8 a n).toNat : Int) := u8of_wrap' _
    rw [this]; exact k)
theorem cv64 {x : Operand} {S T : TypeId} {ks k2 : IntKind} {m : Int} (hS : P.underlying S = some (.int ks)) (hT : P.underlying T = some (.int .u64)) (hx : ev e x = some (.int k2 m)) (hd : Nat.blt d N = true) (k : WL P N w0 ops Q l ((d, .int .u64 ((u64of m).toNat : Int)) :: e) I G) : WL P N w0 ops Q (⟨some d, .convert S T x, t, p, af, none⟩ :: l) e I G :=
  cv hS hT hx hd (by rw [u64of_wrap]; exact k)
section
variable {x : Operand} {S T : TypeId} {ks : IntKind}
theorem cv8_64 {m : UInt8} (hS : P.underlying S = some (.int ks)) (hT : P.underlying T = some (.int .u64)) (hx : ev e x = some (.int .u8 (m.toNat : Int))) (hd : Nat.blt d N = true) (k : WL P N w0 ops Q l ((d, .int .u64 (m.toUInt64.toNat : Int)) :: e) I G) : WL P N w0 ops Q (⟨some d, .convert S T x, t, p, af, none⟩ :: l) e I G :=
  cv hS hT hx hd (by
    have : IntKind.u64.wrap (m.toNat : Int) = (m.toUInt64.toNat : Int) := by
      have := m.toNat_lt
      simp only [IntKind.wrap, IntKind.bits, IntKind.signed, UInt8.toNat_toUInt64]; simp; omega
    rw [this]; exact k)
theorem cv8_32 {m : UInt8} (hS : P.underlying S = some (.int ks)) (hT : P.underlying T = some (.int .u32)) (hx : ev e x = some (.int .u8 (m.toNat : Int))) (hd : Nat.blt d N = true) (k : WL P N w0 ops Q l ((d, .int .u32 (m.toUInt32.toNat : Int)) :: e) I G) : WL P N w0 ops Q (⟨some d, .convert S T x, t, p, af, none⟩ :: l) e I G :=
  cv hS hT hx hd (by
    have : IntKind.u32.wrap (m.toNat : Int) = (m.toUInt32.toNat : Int) := by
      have := m.toNat_lt
      simp only [IntKind.wrap, IntKind.bits, IntKind.signed, UInt8.toNat_toUInt32]; simp; omega
    rw [this]; exact k)
theorem cv64_8 {m : UInt64} (hS : P.underlying S = some (.int ks)) (hT : P.underlying T = some (.int .u8)) (hx : ev e x = some (.int .u64 (m.toNat : Int))) (hd : Nat.blt d N = true) (k : WL P N w0 ops Q l ((d, .int .u8 (m.toUInt8.toNat : Int)) :: e) I G) : WL P N w0 ops Q (⟨some d, .convert S T x, t, p, af, none⟩ :: l) e I G :=
  cv hS hT hx hd (by
    have : IntKind.u8.wrap (m.toNat : Int) = (m.toUInt8.toNat : Int) := by
      simp only [IntKind.wrap, IntKind.bits, IntKind.signed, UInt64.toNat_toUInt8]; simp
    rw [this]; exact k)
theorem cv32_8 {m : UInt32} (hS : P.underlying S = some (.int ks)) (hT : P.underlying T = some (.int .u8)) (hx : ev e x = some (.int .u32 (m.toNat : Int))) (hd : Nat.blt d N = true) (k : WL P N w0 ops Q l ((d, .int .u8 (m.toUInt8.toNat : Int)) :: e) I G) : WL P N w0 ops Q (⟨some d, .convert S T x, t, p, af, none⟩ :: l) e I G :=
  cv hS hT hx hd (by
    have : IntKind.u8.wrap (m.toNat : Int) = (m.toUInt8.toNat : Int) := by
      simp only [IntKind.wrap, IntKind.bits, IntKind.signed, UInt32.toNat_toUInt8]; simp
    rw [this]; exact k)
end
def vnth : Value → Nat → Value
  | .tuple vs, k => vs.getD k undef
  | .agg vs, k => vs.getD k undef
  | v, _ => v
/-- A number becomes a byte. -/
theorem cv8 {x : Operand} {S T : TypeId} {ks k2 : IntKind} {m : Int} (hS : P.underlying S = some (.int ks)) (hT : P.underlying T = some (.int .u8)) (hx : ev e x = some (.int k2 m)) (hd : Nat.blt d N = true) (k : WL P N w0 ops Q l ((d, .int .u8 ((u8of m).toNat : Int)) :: e) I G) : WL P N w0 ops Q (⟨some d, .convert S T x, t, p, af, none⟩ :: l) e I G :=
  cv hS hT hx hd (by rw [u8of_wrap]; exact k)
/-- A byte becomes a number. -/
theorem wrap_u8_nat (x : UInt8) : w64 (x.toNat : Int) = (x.toNat : Int) := by
  have := x.toNat_lt
  show IntKind.i64.wrap _ = _
  simp only [IntKind.wrap, IntKind.bits, IntKind.signed]
  simp
  omega
theorem cv8i {x : Operand} {S T : TypeId} {ks : IntKind} {m : UInt8} (hS : P.underlying S = some (.int ks)) (hT : P.underlying T = some (.int .i64)) (hx : ev e x = some (.int .u8 (m.toNat : Int))) (hd : Nat.blt d N = true) (k : WL P N w0 ops Q l ((d, .int .i64 (m.toNat : Int)) :: e) I G) : WL P N w0 ops Q (⟨some d, .convert S T x, t, p, af, none⟩ :: l) e I G :=
  cv hS hT hx hd (by rw [show IntKind.i64.wrap (m.toNat : Int) = (m.toNat : Int) from wrap_u8_nat m]; exact k)
end
end Go.Proofs.Ytcfapdamgbbklaa
