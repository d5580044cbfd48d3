/- A logic of owned and of lasting memory over the model's walks: what is said of memory, and how an operation changes it. -/
import Derived.Test.YtcfapdamgbbklaaProg
import Derived.WalkKit
import Derived.Below
namespace Go.Proofs.Ytcfapdamgbbklaa
set_option linter.unusedVariables false

/-- A part of the memory. -/
abbrev Mem := Nat → Option Obj
def Mem.le (I J : Mem) : Prop := ∀ b o, I b = some o → J b = some o
theorem Mem.le.refl (I : Mem) : Mem.le I I := fun _ _ h => h
theorem Mem.le.trans {I J K : Mem} (h : Mem.le I J) (h2 : Mem.le J K) : Mem.le I K := fun b o x => h2 b o (h b o x)
/-- Two parts that have no block in common. -/
def Mem.off (h I : Mem) : Prop := ∀ b o, h b = some o → I b = none
theorem Mem.off.symm {h I : Mem} (k : Mem.off h I) : Mem.off I h := fun b o x => by
  cases e : h b with
  | none => rfl
  | some y => rw [k b y e] at x; cases x
theorem Mem.off.le {h h' I I' : Mem} (k : Mem.off h I) (h1 : Mem.le h' h) (h2 : Mem.le I' I) : Mem.off h' I' := fun b o x => by
  cases e : I' b with
  | none => rfl
  | some y => have y1 := h2 b y e; rw [k b o (h1 b o x)] at y1; cases y1
/-- The union. -/
def Mem.or (h I : Mem) : Mem := fun b => (h b).or (I b)
theorem Mem.le_or_left (h I : Mem) : Mem.le h (Mem.or h I) := fun b o x => by simp [Mem.or, x]
theorem Mem.le_or_right {h I : Mem} (k : Mem.off h I) : Mem.le I (Mem.or h I) := fun b o x => by
  unfold Mem.or
  rw [k.symm b o x]; simpa using x
theorem Mem.or_some {h I : Mem} {b : Nat} {o : Obj} (x : Mem.or h I b = some o) : h b = some o ∨ I b = some o := by
  unfold Mem.or at x
  cases e : h b with
  | none => rw [e] at x; exact .inr (by simpa using x)
  | some y => rw [e] at x; exact .inl (by simpa using x)
def Mem.set (h : Mem) (g : Nat) (o : Obj) : Mem := fun b => if b = g then some o else h b

/-- What is said of a part of the memory that is owned, beside what lasts. -/
structure Asn where
  val : Mem → Mem → Prop
  up : ∀ {I J h : Mem}, Mem.le I J → val I h → val J h
/-- All of a list, each of its own part. -/
def sat : List Asn → Mem → Mem → Prop
  | [], _, _ => True
  | A :: G, I, h => ∃ h1 h2, Mem.off h1 h2 ∧ Mem.le h1 h ∧ Mem.le h2 h ∧ A.val I h1 ∧ sat G I h2
theorem sat.up {G : List Asn} : ∀ {I J h : Mem}, Mem.le I J → sat G I h → sat G J h := by
  induction G with
  | nil => intro _ _ _ _ h; exact h
  | cons A G ih =>
    intro I J h k ⟨h1, h2, a, b, c, d, e⟩
    exact ⟨h1, h2, a, b, c, A.up k d, ih k e⟩
theorem sat.wide {G : List Asn} : ∀ {I h h' : Mem}, Mem.le h h' → sat G I h → sat G I h' := by
  cases G with
  | nil => intro _ _ _ _ h; exact h
  | cons A G =>
    intro I h h' k ⟨h1, h2, a, b, c, d, e⟩
    exact ⟨h1, h2, a, b.trans k, c.trans k, d, e⟩
theorem sat.swap {A B : Asn} {G : List Asn} {I h : Mem} (k : sat (A :: B :: G) I h) : sat (B :: A :: G) I h := by
  obtain ⟨h1, h2, a, b, c, d, ⟨h3, h4, e, f, g, i, j⟩⟩ := k
  have o13 : Mem.off h1 h3 := a.le (.refl _) f
  have o14 : Mem.off h1 h4 := a.le (.refl _) g
  refine ⟨h3, Mem.or h1 h4, ?_, f.trans c, ?_, i, h1, h4, o14, Mem.le_or_left _ _, Mem.le_or_right o14, d, j⟩
  · intro b o x
    simp [Mem.or, o13.symm b o x, e b o x]
  · intro b' o x
    rcases Mem.or_some x with x | x
    · exact b _ _ x
    · exact c _ _ (g _ _ x)
theorem sat.under {A : Asn} {G G' : List Asn} {I h : Mem} (f : ∀ h, sat G I h → sat G' I h) (k : sat (A :: G) I h) : sat (A :: G') I h := by
  obtain ⟨h1, h2, a, b, c, d, e⟩ := k
  exact ⟨h1, h2, a, b, c, d, f _ e⟩
/-- Number k of a list to the front. -/
def front : Nat → List Asn → List Asn
  | 0, G => G
  | _ + 1, [] => []
  | k + 1, A :: G => match front k G with
    | [] => [A]
    | B :: G' => B :: A :: G'
theorem sat.front : ∀ (k : Nat) {G : List Asn} {I h : Mem}, sat G I h → sat (front k G) I h
  | 0, _, _, _, x => x
  | _ + 1, [], _, _, x => x
  | k + 1, A :: G, I, h, x => by
    have y := sat.under (fun h => sat.front k (h := h)) x
    unfold Proofs.Ytcfapdamgbbklaa.front
    split
    · rename_i e; rw [e] at y; exact y
    · rename_i B G' e; rw [e] at y; exact y.swap

/-- A world in which what is said holds. -/
def SatW (w : World) (I : Mem) (G : List Asn) : Prop :=
  ∃ h, Mem.off h I ∧ (∀ b o, I b = some o → w.heap[b]? = some o) ∧ (∀ b o, h b = some o → w.heap[b]? = some o) ∧ sat G I h
/-- A later world: nothing has left it but through memory. -/
def Ext (w w' : World) : Prop := w'.os = w.os ∧ w'.tape = w.tape ∧ w'.output = w.output ∧ w.heap.size ≤ w'.heap.size
theorem Ext.refl (w : World) : Ext w w := ⟨rfl, rfl, rfl, Nat.le_refl _⟩
theorem Ext.trans {w w1 w2 : World} (h : Ext w w1) (k : Ext w1 w2) : Ext w w2 := ⟨k.1.trans h.1, k.2.1.trans h.2.1, k.2.2.1.trans h.2.2.1, Nat.le_trans h.2.2.2 k.2.2.2⟩
theorem heap_al (w : World) (o : Obj) : (w.alloc o).heap = w.heap.push o := rfl
theorem Ext.alloc (w : World) (o : Obj) : Ext w (w.alloc o) := ⟨rfl, rfl, rfl, by rw [heap_al]; simp⟩
theorem Ext.drawn (w : World) (d : Nat) : Ext w { w with drawn := d } := ⟨rfl, rfl, rfl, Nat.le_refl _⟩
theorem Ext.setCell (w : World) (a : Addr) (v : Value) : Ext w (w.setCell a v) := ⟨rfl, rfl, rfl, by simp [World.setCell]⟩
theorem SatW.imm {w : World} {I : Mem} {G : List Asn} (h : SatW w I G) {b : Nat} {o : Obj} (k : I b = some o) : w.heap[b]? = some o := h.choose_spec.2.1 b o k
theorem SatW.front {w : World} {I : Mem} {G : List Asn} (k : Nat) (h : SatW w I G) : SatW w I (front k G) := by
  obtain ⟨m, a, b, c, d⟩ := h
  exact ⟨m, a, b, c, d.front k⟩
theorem SatW.drop {w : World} {I : Mem} {A : Asn} {G : List Asn} (h : SatW w I (A :: G)) : SatW w I G := by
  obtain ⟨m, a, b, c, h1, h2, _, _, d, _, e⟩ := h
  exact ⟨h2, a.le d (.refl _), b, fun x o k => c x o (d x o k), e⟩
theorem SatW.drawn {w : World} {I : Mem} {G : List Asn} (h : SatW w I G) (d : Nat) : SatW { w with drawn := d } I G := h
/-- One thing that is owned is said otherwise. -/
theorem SatW.conv {w : World} {I : Mem} {A B : Asn} {G : List Asn} (f : ∀ h, A.val I h → B.val I h) (h : SatW w I (A :: G)) : SatW w I (B :: G) := by
  obtain ⟨m, a, b, c, h1, h2, d, e, g, i, j⟩ := h
  exact ⟨m, a, b, c, h1, h2, d, e, g, f _ i, j⟩
/-- A block of one's own. -/
def blk (g : Nat) (c : Array Value) (E : TypeId) : Asn := ⟨fun _ h => h g = some (.cells c E (0, 0)), fun _ h => h⟩
/-- Any object of one's own. -/
def own (g : Nat) (o : Obj) : Asn := ⟨fun _ h => h g = some o, fun _ h => h⟩
theorem SatW.new {w : World} {I : Mem} {G : List Asn} (h : SatW w I G) (o : Obj) : SatW (w.alloc o) I (own w.heap.size o :: G) := by
  obtain ⟨m, a, b, c, d⟩ := h
  have hI : I w.heap.size = none := by
    cases e : I w.heap.size with
    | none => rfl
    | some y => have := b _ _ e; simp at this
  have hm : m w.heap.size = none := by
    cases e : m w.heap.size with
    | none => rfl
    | some y => have := c _ _ e; simp at this
  have hold : ∀ x y, w.heap[x]? = some y → (w.alloc o).heap[x]? = some y := fun x y k => by
    have hl : x < w.heap.size := (Array.getElem?_eq_some_iff.1 k).1
    rw [heap_al, Array.getElem?_push, if_neg (by omega)]; exact k
  refine ⟨Mem.set m w.heap.size o, ?_, fun x y k => hold x y (b x y k), ?_, (fun b => if b = w.heap.size then some o else none), m, ?_, ?_, ?_, ?_, d⟩
  · intro x y k
    unfold Mem.set at k
    split at k
    · subst x; exact hI
    · exact a x y k
  · intro x y k
    unfold Mem.set at k
    split at k
    · subst x; rw [← k, heap_al]; simp
    · exact hold x y (c x y k)
  · intro x y k
    simp only at k
    split at k
    · subst x; exact hm
    · cases k
  · intro x y k
    simp only at k
    unfold Mem.set
    split at k
    · rename_i e; rw [if_pos e]; exact k
    · cases k
  · intro x y k
    unfold Mem.set
    rw [if_neg (by rintro rfl; rw [hm] at k; cases k)]; exact k
  · simp [own]
/-- An object of one's own becomes another one. -/
theorem SatW.set {w w' : World} {I : Mem} {g : Nat} {o o' : Obj} {G : List Asn} (h : SatW w I (own g o :: G)) (hg : w'.heap[g]? = some o') (hr : ∀ b, b ≠ g → w'.heap[b]? = w.heap[b]?) : SatW w' I (own g o' :: G) := by
  obtain ⟨m, a, b, c, h1, h2, d, e, f, i, j⟩ := h
  have h1g : h1 g = some o := i
  have hI : I g = none := a g o (e _ _ h1g)
  have h2g : h2 g = none := d _ _ h1g
  refine ⟨Mem.set m g o', ?_, ?_, ?_, (fun b => if b = g then some o' else none), h2, ?_, ?_, ?_, ?_, j⟩
  · intro x y k
    unfold Mem.set at k
    split at k
    · subst x; exact hI
    · exact a x y k
  · intro x y k
    rw [hr x (by rintro rfl; rw [hI] at k; cases k)]; exact b x y k
  · intro x y k
    unfold Mem.set at k
    split at k
    · subst x; rw [← k]; exact hg
    · rw [hr x (by assumption)]; exact c x y k
  · intro x y k
    simp only at k
    split at k
    · subst x; exact h2g
    · cases k
  · intro x y k
    simp only at k
    unfold Mem.set
    split at k
    · rename_i e; rw [if_pos e]; exact k
    · cases k
  · intro x y k
    unfold Mem.set
    rw [if_neg (by rintro rfl; rw [h2g] at k; cases k)]; exact f x y k
  · simp [own]
theorem SatW.own_at {w : World} {I : Mem} {g : Nat} {o : Obj} {G : List Asn} (h : SatW w I (own g o :: G)) : w.heap[g]? = some o := by
  obtain ⟨m, _, _, c, h1, _, _, e, _, i, _⟩ := h
  exact c _ _ (e _ _ i)
/-- What is owned lasts from now on. -/
theorem SatW.freeze {w : World} {I : Mem} {A : Asn} {G : List Asn} (h : SatW w I (A :: G)) : ∃ J m, Mem.le I J ∧ Mem.le m J ∧ A.val I m ∧ SatW w J G := by
  obtain ⟨m, a, b, c, h1, h2, d, e, f, i, j⟩ := h
  have o1 : Mem.off h1 I := a.le e (.refl _)
  have o2 : Mem.off h2 I := a.le f (.refl _)
  refine ⟨Mem.or h1 I, h1, Mem.le_or_right o1, Mem.le_or_left _ _, i, h2, ?_, ?_, fun x y k => c _ _ (f _ _ k), j.up (Mem.le_or_right o1)⟩
  · intro x y k
    simp [Mem.or, d.symm x y k, o2 x y k]
  · intro x y k
    rcases Mem.or_some k with k | k
    · exact c _ _ (e _ _ k)
    · exact b _ _ k

/-! ### Frames -/
theorem beqf {a b : Nat} (h : ¬ a = b) : Nat.beq a b = false := by
  cases e : Nat.beq a b with
  | false => rfl
  | true => exact absurd (Nat.eq_of_beq_eq_true e) h
theorem ne_of_beqf {a b : Nat} (h : Nat.beq a b = false) : ¬ a = b := fun e => by subst e; rw [Nat.beq_refl] at h; cases h
/-- What is known of the slots. -/
abbrev Env := List (Nat × Value)
def look : Env → Nat → Option Value
  | [], _ => none
  | (d, v) :: e, t => bif Nat.beq d t then some v else look e t
def ev (e : Env) : Operand → Option Value
  | .tmp t => look e t
  | .const v => some v
  | .global g => some (.pointer (some ⟨g, 0, none⟩))
  | .func f => some (.func (.func f) #[] #[])
def Good (N : Nat) (e : Env) (a : Act) : Prop := a.defers = [] ∧ a.tmps.size = N ∧ ∀ t v, look e t = some v → a.tmps[t]? = some v
theorem Good.ev {N : Nat} {e : Env} {a : Act} (h : Good N e a) {x : Operand} {v : Value} (k : ev e x = some v) : a.eval x = v := by
  cases x with
  | tmp t => have := h.2.2 t v k; simp [Act.eval, this]
  | const u => exact Option.some.inj k
  | global g => exact Option.some.inj k
  | func f => exact Option.some.inj k
theorem Good.put {N : Nat} {e : Env} {a : Act} (h : Good N e a) {d : Nat} (hd : Nat.blt d N = true) (v : Value) : Good N ((d, v) :: e) (a.put (some d) v) := by
  have hd' : d < N := by simpa [Nat.blt_eq] using hd
  refine ⟨h.1, by simp [Act.put, h.2.1], fun t u k => ?_⟩
  simp only [look] at k
  by_cases ht : d = t
  · subst ht
    simp at k
    subst k
    simp [Act.put, h.2.1, hd']
  · have hb : Nat.beq d t = false := beqf ht
    rw [hb] at k
    simp only [cond_false] at k
    simp [Act.put, ht, h.2.2 t u k]
theorem Good.put_none {N : Nat} {e : Env} {a : Act} (h : Good N e a) (v : Value) : Good N e (a.put none v) := h
/-- Less is known. -/
def subEnv : Env → Env → Prop
  | [], _ => True
  | (t, v) :: r, e => look e t = some v ∧ subEnv r e
theorem Good.sub {N : Nat} {e : Env} {a : Act} (h : Good N e a) : ∀ {r : Env}, subEnv r e → Good N r a
  | [], _ => ⟨h.1, h.2.1, fun t v k => by cases k⟩
  | (d, v) :: r, hs => by
    have ih := h.sub (r := r) hs.2
    refine ⟨h.1, h.2.1, fun t u k => ?_⟩
    simp only [look] at k
    by_cases ht : d = t
    · subst ht
      simp at k
      subst k
      exact h.2.2 _ _ hs.1
    · have hb : Nat.beq d t = false := beqf ht
      rw [hb] at k
      exact ih.2.2 t u k
/-- The parameters' slots. -/
def argEnv : Nat → List Value → Env
  | _, [] => []
  | n, v :: l => (n, v) :: argEnv (n + 1) l
theorem look_argEnv : ∀ (l : List Value) (n t : Nat) (v : Value), look (argEnv n l) t = some v → n ≤ t ∧ l[t - n]? = some v
  | [], _, _, _, h => by cases h
  | u :: l, n, t, v, h => by
    simp only [argEnv, look] at h
    by_cases ht : n = t
    · subst ht; simp at h; subst h; simp
    · have hb : Nat.beq n t = false := beqf ht
      rw [hb] at h
      obtain ⟨h1, h2⟩ := look_argEnv l (n + 1) t v h
      refine ⟨by omega, ?_⟩
      rw [show t - n = (t - (n + 1)) + 1 from by omega]
      simpa using h2

/-! ### What is to be shown of a piece of code -/
section
variable (P : Program) (N : Nat) (w0 : World)
def WL (ops : Array Oper) (Q : Exit → Act → World → Prop) (l : List Oper) (e : Env) (I : Mem) (G : List Asn) : Prop :=
  ∀ a w, Good N e a → Ext w0 w → SatW w I G → wpList P ops Q l a w
def WC (c : Code) (Q : Exit → Act → World → Prop) (e : Env) (I : Mem) (G : List Asn) : Prop :=
  ∀ a w, Good N e a → Ext w0 w → SatW w I G → c.wp P Q a w
def WX (x : Exit) (Q : Exit → Act → World → Prop) (e : Env) (I : Mem) (G : List Asn) : Prop :=
  ∀ a w, Good N e a → Ext w0 w → SatW w I G → Q x a w
end
/-- A call of a Go function that comes back. -/
def CallsS (P : Program) (f : FuncId) (args : Array Value) (I : Mem) (G : List Asn) (R : Value → Mem → List Asn → Prop) : Prop :=
  ∀ w, SatW w I G → Calls P f args w fun e w' => ∃ v J G', e = .returned v ∧ Mem.le I J ∧ R v J G' ∧ SatW w' J G' ∧ Ext w w'
theorem CallsS.mono {P : Program} {f : FuncId} {args : Array Value} {I : Mem} {G : List Asn} {R R' : Value → Mem → List Asn → Prop} (h : CallsS P f args I G R) (k : ∀ v J G', Mem.le I J → R v J G' → R' v J G') : CallsS P f args I G R' :=
  fun w hw => (h w hw).mono fun e w' ⟨v, J, G', a, b, c, d⟩ => ⟨v, J, G', a, b, k v J G' b c, d⟩
def postOf (w0 : World) (I : Mem) (R : Value → Mem → List Asn → Prop) : Ending → World → Prop :=
  fun e w' => ∃ v J G', e = .returned v ∧ Mem.le I J ∧ R v J G' ∧ SatW w' J G' ∧ Ext w0 w'
theorem CallsS.enter {P : Program} {f : FuncId} {fn : Func} {c : Code} {args : Array Value} {I : Mem} {G : List Asn} {R : Value → Mem → List Asn → Prop} {N : Nat}
    (hf : P.funcs[f]? = some fn) (hb : fn.body = some c) (hn : fn.ntmps = N) (hs : Nat.ble args.size N = true)
    (h : ∀ w0, WC P N w0 c (bodyPost P fn (postOf w0 I R)) (argEnv 0 args.toList) I G) : CallsS P f args I G R := fun w hw => by
  refine calls_of_wp hf hb (h w _ w ⟨rfl, ?_, fun t v k => ?_⟩ (Ext.refl w) hw)
  · have : args.size ≤ N := by simpa using hs
    simp [hn]; omega
  · obtain ⟨_, h2⟩ := look_argEnv _ _ _ _ k
    simp only [Nat.sub_zero, Array.getElem?_toList] at h2
    have hl : t < args.size := (Array.getElem?_eq_some_iff.1 h2).1
    rw [Array.getElem?_append_left hl]; exact h2

section
variable {P : Program} {N : Nat} {w0 : World} {ops : Array Oper} {Q : Exit → Act → World → Prop} {l : List Oper} {e : Env} {I : Mem} {G : List Asn}
/-! ### Rules of structure -/
theorem WC.sub {c : Code} {r : Env} (h : WC P N w0 c Q r I G) (hs : subEnv r e) : WC P N w0 c Q e I G := fun a w ha hx hw => h a w (ha.sub hs) hx hw
theorem WL.sub {r : Env} (h : WL P N w0 ops Q l r I G) (hs : subEnv r e) : WL P N w0 ops Q l e I G := fun a w ha hx hw => h a w (ha.sub hs) hx hw
theorem WX.sub {x : Exit} {r : Env} (h : WX N w0 x Q r I G) (hs : subEnv r e) : WX N w0 x Q e I G := fun a w ha hx hw => h a w (ha.sub hs) hx hw
theorem WC.front {c : Code} (k : Nat) (h : WC P N w0 c Q e I (front k G)) : WC P N w0 c Q e I G := fun a w ha hx hw => h a w ha hx (hw.front k)
theorem WL.front (k : Nat) (h : WL P N w0 ops Q l e I (front k G)) : WL P N w0 ops Q l e I G := fun a w ha hx hw => h a w ha hx (hw.front k)
theorem WX.front {x : Exit} (k : Nat) (h : WX N w0 x Q e I (front k G)) : WX N w0 x Q e I G := fun a w ha hx hw => h a w ha hx (hw.front k)
theorem WC.drop {c : Code} {A : Asn} (h : WC P N w0 c Q e I G) : WC P N w0 c Q e I (A :: G) := fun a w ha hx hw => h a w ha hx hw.drop
theorem WL.drop {A : Asn} (h : WL P N w0 ops Q l e I G) : WL P N w0 ops Q l e I (A :: G) := fun a w ha hx hw => h a w ha hx hw.drop
theorem WX.drop {x : Exit} {A : Asn} (h : WX N w0 x Q e I G) : WX N w0 x Q e I (A :: G) := fun a w ha hx hw => h a w ha hx hw.drop
theorem WC.seq {x y : Code} (h : WC P N w0 x (Exit.then (y.wp P Q) Q) e I G) : WC P N w0 (.seq x y) Q e I G := fun a w ha hx hw => wp_seq (h a w ha hx hw)
theorem WC.skip (h : WX N w0 .normal Q e I G) : WC P N w0 .skip Q e I G := fun a w ha hx hw => wp_skip (h a w ha hx hw)
theorem WC.exit {i : Nat} (h : WX N w0 (.exit i) Q e I G) : WC P N w0 (.exit i) Q e I G := fun a w ha hx hw => wp_exit (h a w ha hx hw)
theorem WC.ret (h : WX N w0 .ret Q e I G) : WC P N w0 .ret Q e I G := fun a w ha hx hw => wp_ret (h a w ha hx hw)
theorem WC.block {i : Nat} {c : Code} (h : WC P N w0 c (Exit.inBlock i Q) e I G) : WC P N w0 (.block i c) Q e I G := fun a w ha hx hw => wp_block (h a w ha hx hw)
theorem WC.region {i : Nat} {l : List Oper} (h : WL P N w0 l.toArray Q l e I G) : WC P N w0 (.region i l.toArray false) Q e I G := fun a w ha hx hw => wp_region_lit (h a w ha hx hw)
theorem WL.nil (h : WX N w0 .normal Q e I G) : WL P N w0 ops Q [] e I G := fun a w ha hx hw => h a w ha hx hw
theorem WX.then_ {c : Code} (h : WC P N w0 c Q e I G) : WX N w0 .normal (Exit.then (c.wp P Q) Q) e I G := fun a w ha hx hw => h a w ha hx hw
theorem WX.then_exit {i : Nat} {K : Act → World → Prop} (h : WX N w0 (.exit i) Q e I G) : WX N w0 (.exit i) (Exit.then K Q) e I G := h
theorem WX.then_ret {K : Act → World → Prop} (h : WX N w0 .ret Q e I G) : WX N w0 .ret (Exit.then K Q) e I G := h
theorem WX.block_normal {i : Nat} (h : WX N w0 .normal Q e I G) : WX N w0 .normal (Exit.inBlock i Q) e I G := h
theorem WX.block_ret {i : Nat} (h : WX N w0 .ret Q e I G) : WX N w0 .ret (Exit.inBlock i Q) e I G := h
theorem WX.block_here {i : Nat} (h : WX N w0 .normal Q e I G) : WX N w0 (.exit i) (Exit.inBlock i Q) e I G := fun a w ha hx hw => by
  simp only [Exit.inBlock, if_true]; exact h a w ha hx hw
theorem WX.block_there {i j : Nat} (hij : Nat.beq j i = false) (h : WX N w0 (.exit j) Q e I G) : WX N w0 (.exit j) (Exit.inBlock i Q) e I G := fun a w ha hx hw => by
  have : ¬ j = i := ne_of_beqf hij
  simp only [Exit.inBlock, if_neg this]; exact h a w ha hx hw
/-- The end of a region, more code behind it. -/
theorem WL.next {c : Code} (h : WC P N w0 c Q e I G) : WL P N w0 ops (Exit.then (c.wp P Q) Q) [] e I G := fun a w ha hx hw => h a w ha hx hw
theorem WC.cond {c : Operand} {x y : Code} {t : Bool} (hc : ev e c = some (.bool t)) (ht : t = true → WC P N w0 x Q e I G) (hf : t = false → WC P N w0 y Q e I G) : WC P N w0 (.cond c x y) Q e I G := fun a w ha hx hw =>
  wp_cond_split (ha.ev hc) (fun h => ht h a w ha hx hw) (fun h => hf h a w ha hx hw)
/-- A test that a plain function makes, too. -/
theorem WC.ite {α : Type} {c : Operand} {x y : Code} {p : Prop} [Decidable p] {r1 r2 : Option α} {r : α} (hc : ev e c = some (.bool (decide p))) (h : (if p then r1 else r2) = some r)
    (ht : p → r1 = some r → WC P N w0 x Q e I G) (hf : ¬ p → r2 = some r → WC P N w0 y Q e I G) : WC P N w0 (.cond c x y) Q e I G :=
  WC.cond hc (fun k => by have hp : p := by simpa using k
                          rw [if_pos hp] at h; exact ht hp h) (fun k => by have hp : ¬ p := by simpa using k
                                                                           rw [if_neg hp] at h; exact hf hp h)
theorem WC.iteb {α : Type} {c : Operand} {x y : Code} {b : Bool} {r1 r2 : Option α} {r : α} (hc : ev e c = some (.bool b)) (h : (if b = true then r1 else r2) = some r)
    (ht : b = true → r1 = some r → WC P N w0 x Q e I G) (hf : b = false → r2 = some r → WC P N w0 y Q e I G) : WC P N w0 (.cond c x y) Q e I G :=
  WC.cond hc (fun k => by rw [if_pos k] at h; exact ht k h) (fun k => by rw [if_neg (by simp [k])] at h; exact hf k h)
/-- A loop that has been entered. -/
def LoopW (P : Program) (c : Code) (Q : Exit → Act → World → Prop) (a : Act) (w : World) : Prop :=
  ∀ (b : Frame) (k : List Item) (cs : List Frame), ∃ e a' w', Q e a' w' ∧ Arrives P (lone (b.at a (.code c :: .inLoop c :: k)) cs w) b k cs e a' w'
theorem LoopW.of_round {c : Code} {a : Act} {w : World} (h : c.wp P (Exit.then (LoopW P c Q) Q) a w) : LoopW P c Q a w := by
  intro b kk cs
  obtain ⟨x, a1, w1, hq, harr⟩ := h b (.inLoop c :: kk) cs
  cases x with
  | normal =>
    obtain ⟨x2, a2, w2, hq2, harr2⟩ := hq b kk cs
    exact ⟨x2, a2, w2, hq2, .of_steps (Steps.trans harr (.one step_inLoop)) harr2⟩
  | exit id => exact ⟨_, a1, w1, hq, .pass (x := .inLoop c) rfl (fun _ _ => .inl (by simp)) harr⟩
  | goto l => exact ⟨_, a1, w1, hq, .pass (x := .inLoop c) rfl (fun _ _ => .inl (by simp)) harr⟩
  | ret => exact ⟨_, a1, w1, hq, .pass (x := .inLoop c) rfl (fun _ _ => .inl (by simp)) harr⟩
  | panic ch => exact ⟨_, a1, w1, hq, .pass (x := .inLoop c) rfl (fun _ _ => .inl (by simp)) harr⟩
  | outgrown => exact ⟨_, a1, w1, hq, .pass (x := .inLoop c) rfl (fun _ _ => .inl (by simp)) harr⟩
def WLo (P : Program) (N : Nat) (w0 : World) (c : Code) (Q : Exit → Act → World → Prop) (e : Env) (I : Mem) (G : List Asn) : Prop :=
  ∀ a w, Good N e a → Ext w0 w → SatW w I G → LoopW P c Q a w
theorem WLo.sub {c : Code} {r : Env} (h : WLo P N w0 c Q r I G) (hs : subEnv r e) : WLo P N w0 c Q e I G := fun a w ha hx hw => h a w (ha.sub hs) hx hw
/-- The end of a round. -/
theorem WX.round {c : Code} (h : WLo P N w0 c Q e I G) : WX N w0 .normal (Exit.then (LoopW P c Q) Q) e I G := h
/-- A loop, by the rounds that a plain function goes. -/
theorem WC.loop {σ : Type} {ρ : Type} {c : Code} (L : Nat → σ → Option ρ) (r : ρ) (E : σ → Env) (H : σ → List Asn) (V : σ → Mem → Prop) (L0 : ∀ s, L 0 s = none)
    (k : Nat) (s : σ) (hL : L k s = some r) (hV : V s I) (hs : subEnv (E s) e) (hG : G = H s)
    (round : ∀ k, (∀ s J, Mem.le I J → V s J → L k s = some r → WLo P N w0 c Q (E s) J (H s)) → ∀ s J, Mem.le I J → V s J → L (k + 1) s = some r → WC P N w0 c (Exit.then (LoopW P c Q) Q) (E s) J (H s)) : WC P N w0 (.loop c) Q e I G := by
  have key : ∀ k s J, Mem.le I J → V s J → L k s = some r → WLo P N w0 c Q (E s) J (H s) := by
    intro k
    induction k with
    | zero => intro s J _ _ h; rw [L0] at h; cases h
    | succ k ih =>
      intro s J hJ hV h a w ha hx hw
      exact .of_round (round k ih s J hJ hV h a w ha hx hw)
  subst hG
  intro a w ha hx hw b kk cs
  obtain ⟨x, a', w', hq, harr⟩ := (key k s I (.refl _) hV hL).sub hs a w ha hx hw b kk cs
  exact ⟨x, a', w', hq, .of_steps (.one step_loop) harr⟩
end
end Go.Proofs.Ytcfapdamgbbklaa
