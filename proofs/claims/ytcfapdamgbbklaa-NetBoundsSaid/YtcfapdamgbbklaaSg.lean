/- A logic of owned and of lasting memory: a statement whose order Go leaves open: each operation is shown once, by what it takes and what it gives. -/
import Derived.Test.YtcfapdamgbbklaaSf
import Derived.Orders
namespace Go.Proofs.Ytcfapdamgbbklaa
set_option linter.unusedVariables false

/-- What is known of an operation's result. -/
structure Kn where
  out : Value → Value
  p : Value → Mem → Prop
  up : ∀ {v I J}, Mem.le I J → p v I → p v J
  ok : ∀ {v I}, p v I → out v = v
def Kn.val (u : Value) : Kn := ⟨fun _ => u, fun v _ => v = u, fun _ h => h, fun h => h.symm⟩
def Kn.any : Kn := ⟨fun v => v, fun _ _ => True, fun _ h => h, fun _ => rfl⟩
def Kn.imm {α : Type} [GoT α] (xs : List α) : Kn := ⟨fun v => v, fun v I => IV I v xs, fun h k => k.up h, fun _ => rfl⟩
def Kn.ip {α : Type} [GoT α] (x : α) : Kn := ⟨fun v => v, fun v I => IP I v x, fun h k => k.up h, fun _ => rfl⟩
def Kn.of (p : Value → Mem → Prop) (up : ∀ {v I J}, Mem.le I J → p v I → p v J) : Kn := ⟨fun v => v, p, up, fun _ => rfl⟩
/-- What is owned on the way: who gives it, who takes it, who looks at it. -/
structure Tok where
  prod : Option Nat
  cons : Option Nat
  bor : List Nat
  deps : List Nat
  A : List Value → Asn
def vget : List Value → Nat → Value
  | [], _ => undef
  | v :: l, k => bif Nat.beq k 0 then v else vget l (k - 1)
def mapv (ρ : Nat → Value) : List Nat → List Value
  | [] => []
  | j :: l => ρ j :: mapv ρ l
theorem mapv_congr {ρ ρ' : Nat → Value} : ∀ {l : List Nat}, (∀ j ∈ l, ρ j = ρ' j) → mapv ρ l = mapv ρ' l
  | [], _ => rfl
  | j :: l, h => by unfold mapv; rw [h j (by simp), mapv_congr fun k hk => h k (by simp [hk])]
def oeq : Option Nat → Nat → Bool
  | none, _ => false
  | some a, b => Nat.beq a b
def has : List Nat → Nat → Bool
  | [], _ => false
  | a :: l, b => bif Nat.beq a b then true else has l b
theorem has_mem : ∀ {l : List Nat} {b : Nat}, has l b = true ↔ b ∈ l
  | [], b => by simp [has]
  | a :: l, b => by
    unfold has
    by_cases h : a = b
    · subst h; simp
    · rw [beqf h]
      simp only [cond_false, List.mem_cons]
      rw [has_mem]
      constructor
      · exact .inr
      · rintro (rfl | h2)
        · exact absurd rfl h
        · exact h2
theorem oeq_some {x : Option Nat} {b : Nat} : oeq x b = true ↔ x = some b := by
  cases x with
  | none => simp [oeq]
  | some a =>
    simp only [oeq, Option.some.injEq]
    exact ⟨Nat.eq_of_beq_eq_true, fun h => by subst h; exact Nat.beq_refl _⟩
def Tok.val (ρ : Nat → Value) (T : Tok) : Asn := T.A (mapv ρ T.deps)
/-- Those that a test lets. -/
def pick (f : Tok → Bool) (ρ : Nat → Value) : List Tok → List Asn
  | [] => []
  | T :: l => bif f T then T.val ρ :: pick f ρ l else pick f ρ l
theorem pick_eq (f : Tok → Bool) (ρ : Nat → Value) : ∀ l : List Tok, pick f ρ l = (l.filter f).map (Tok.val ρ)
  | [] => rfl
  | T :: l => by
    unfold pick
    cases h : f T <;> simp [h, pick_eq f ρ l]
theorem sat.perm {G H : List Asn} (h : G.Perm H) : ∀ {I m : Mem}, sat G I m → sat H I m := by
  induction h with
  | nil => intro I m k; exact k
  | cons A _ ih => intro I m k; exact sat.under (fun _ => ih) k
  | swap A B l => intro I m k; exact k.swap
  | trans _ _ h1 h2 => intro I m k; exact h2 (h1 k)
theorem SatW.perm {w : World} {I : Mem} {G H : List Asn} (p : G.Perm H) (h : SatW w I G) : SatW w I H := by
  obtain ⟨m, a, b, c, d⟩ := h
  exact ⟨m, a, b, c, d.perm p⟩
def upd (ρ : Nat → Value) (i : Nat) (v : Value) : Nat → Value := fun j => bif Nat.beq j i then v else ρ j
theorem upd_same (ρ : Nat → Value) (i : Nat) (v : Value) : upd ρ i v i = v := by simp [upd]
theorem upd_other (ρ : Nat → Value) {i j : Nat} (v : Value) (h : j ≠ i) : upd ρ i v j = ρ j := by unfold upd; rw [beqf h]; rfl
/-- All that is known of some results. -/
def KAll (K : Nat → Kn) (ρ : Nat → Value) (I : Mem) : List Nat → Prop
  | [] => True
  | j :: l => (K j).p (ρ j) I ∧ KAll K ρ I l
theorem KAll.of {K : Nat → Kn} {ρ : Nat → Value} {I : Mem} : ∀ {l : List Nat}, (∀ j ∈ l, (K j).p (ρ j) I) → KAll K ρ I l
  | [], _ => trivial
  | j :: l, h => ⟨h j (by simp), KAll.of fun k hk => h k (by simp [hk])⟩
def dstOf (ops : List Oper) (i : Nat) : Option Nat := (ops[i]?).bind (·.dst)
/-- The slots of some results. -/
def uenv (ops : List Oper) (K : Nat → Kn) (ρ : Nat → Value) : List Nat → Env
  | [] => []
  | j :: l => match dstOf ops j with
    | none => uenv ops K ρ l
    | some d => (d, (K j).out (ρ j)) :: uenv ops K ρ l
/-- No operation but later ones writes this slot. -/
def clear (pre : Nat → List Nat) (i t : Nat) : Nat → List Oper → Bool
  | _, [] => true
  | j, o :: l => (bif oeq o.dst t then has (pre j) i else true) && clear pre i t (j + 1) l
def clears (pre : Nat → List Nat) (i : Nat) (ops : List Oper) : Env → Env
  | [] => []
  | (t, v) :: e => bif clear pre i t 0 ops then (t, v) :: clears pre i ops e else clears pre i ops e
theorem look_append : ∀ {e e' : Env} {t : Nat} {v : Value}, look (e ++ e') t = some v → look e t = some v ∨ look e' t = some v
  | [], _, _, _, h => .inr h
  | (d, u) :: e, e', t, v, h => by
    simp only [List.cons_append, look] at h ⊢
    cases hb : Nat.beq d t with
    | true => rw [hb] at h; exact .inl h
    | false => rw [hb] at h; exact look_append h
theorem look_clears {pre : Nat → List Nat} {i : Nat} {ops : List Oper} : ∀ {e : Env} {t : Nat} {v : Value}, look (clears pre i ops e) t = some v → look e t = some v ∧ clear pre i t 0 ops = true ∨ False
  | [], _, _, h => by cases h
  | (d, u) :: e, t, v, h => by
    unfold clears at h
    cases hc : clear pre i d 0 ops with
    | true =>
      rw [hc] at h
      simp only [cond_true, look] at h ⊢
      cases hb : Nat.beq d t with
      | true =>
        rw [hb] at h
        obtain rfl := Nat.eq_of_beq_eq_true hb
        exact .inl ⟨by simpa using h, hc⟩
      | false => rw [hb] at h; simpa using look_clears (by simpa using h)
    | false =>
      rw [hc] at h
      rcases look_clears (e := e) (by simpa using h) with ⟨h1, h2⟩ | h
      · refine .inl ⟨?_, h2⟩
        simp only [look]
        cases hb : Nat.beq d t with
        | true =>
          obtain rfl := Nat.eq_of_beq_eq_true hb
          rw [hc] at h2; cases h2
        | false => simpa using h1
      · exact h.elim
theorem clear_spec {pre : Nat → List Nat} {i t : Nat} : ∀ {l : List Oper} {j : Nat}, clear pre i t j l = true → ∀ k o, l[k]? = some o → o.dst = some t → i ∈ pre (j + k)
  | [], _, _, k, o, h, _ => by simp at h
  | o :: l, j, h, 0, o', h2, h3 => by
    unfold clear at h
    simp at h2; subst h2
    rw [h3] at h
    simp only [oeq, Nat.beq_refl, cond_true, Bool.and_eq_true] at h
    exact has_mem.1 h.1
  | o :: l, j, h, k + 1, o', h2, h3 => by
    unfold clear at h
    simp only [Bool.and_eq_true] at h
    have := clear_spec h.2 k o' (by simpa using h2) h3
    rwa [Nat.add_assoc, Nat.add_comm 1 k] at this

/-! ### What is checked of the order -/
def okPre (pre : Nat → List Nat) (i : Nat) (o : Oper) : Bool :=
  (pre i).all fun j => o.after.toList.any fun x => Region.binds .any x && (Nat.beq x.on j || has (pre x.on) j)
def okAfter (i : Nat) (o : Oper) : Bool := o.after.toList.all fun x => !Region.binds .any x || Nat.blt x.on i
def okDeps (pre : Nat → List Nat) (T : Tok) : Bool :=
  match T.prod with
  | none => T.deps.isEmpty
  | some j => T.deps.all fun d => Nat.beq d j || has (pre j) d
def okTok (pre : Nat → List Nat) (n : Nat) (T : Tok) : Bool :=
  okDeps pre T && ((match T.prod with
   | none => true
   | some j => Nat.blt j n && (T.bor.all fun i => has (pre i) j) && (match T.cons with | none => true | some c => has (pre c) j)) &&
  (match T.cons with
   | none => true
   | some c => Nat.blt c n && !has T.bor c && T.bor.all fun i => has (pre c) i))
def okDst : List Oper → Bool
  | [] => true
  | o :: l => (match o.dst with | none => true | some d => l.all fun o' => !oeq o'.dst d) && okDst l
def okAll (pre : Nat → List Nat) (us : Nat → List Nat) (n : Nat) : Nat → List Oper → Bool
  | _, [] => true
  | i, o :: l => okPre pre i o && okAfter i o && (us i).all (fun j => has (pre i) j) && okAll pre us n (i + 1) l
theorem okAll_at {pre us : Nat → List Nat} {n : Nat} : ∀ {l : List Oper} {i : Nat}, okAll pre us n i l = true → ∀ k o, l[k]? = some o → okPre pre (i + k) o = true ∧ okAfter (i + k) o = true ∧ ∀ j ∈ us (i + k), j ∈ pre (i + k)
  | [], _, _, k, o, h => by simp at h
  | o :: l, i, h, 0, o', h2 => by
    unfold okAll at h
    simp at h2; subst h2
    simp only [Bool.and_eq_true, List.all_eq_true] at h
    exact ⟨h.1.1.1, h.1.1.2, fun j hj => has_mem.1 (h.1.2 j hj)⟩
  | o :: l, i, h, k + 1, o', h2 => by
    unfold okAll at h
    simp only [Bool.and_eq_true] at h
    have := okAll_at h.2 k o' (by simpa using h2)
    rwa [Nat.add_assoc, Nat.add_comm 1 k] at this
theorem okDst_ne : ∀ {l : List Oper}, okDst l = true → ∀ (i j : Nat) (a b : Oper) (d : Nat), l[i]? = some a → l[j]? = some b → a.dst = some d → b.dst = some d → i = j
  | [], _, _, _, _, _, _, h, _, _, _ => by simp at h
  | o :: l, h, 0, 0, _, _, _, _, _, _, _ => rfl
  | o :: l, h, 0, j + 1, a, b, d, h1, h2, h3, h4 => by
    unfold okDst at h
    simp at h1; subst h1
    rw [h3] at h
    simp only [Bool.and_eq_true, List.all_eq_true] at h
    have hb : b ∈ l := List.mem_of_getElem? (by simpa using h2)
    have := h.1 b hb
    rw [h4] at this
    simp [oeq] at this
  | o :: l, h, i + 1, 0, a, b, d, h1, h2, h3, h4 => by
    unfold okDst at h
    simp at h2; subst h2
    rw [h4] at h
    simp only [Bool.and_eq_true, List.all_eq_true] at h
    have ha : a ∈ l := List.mem_of_getElem? (by simpa using h1)
    have := h.1 a ha
    rw [h3] at this
    simp [oeq] at this
  | o :: l, h, i + 1, j + 1, a, b, d, h1, h2, h3, h4 => by
    unfold okDst at h
    simp only [Bool.and_eq_true] at h
    have := okDst_ne h.2 i j a b d (by simpa using h1) (by simpa using h2) h3 h4
    omega

/-- A step that is shown to go on leads to the slots as they were, with one more. -/
theorem wp_to {P : Program} {o : Oper} {a : Act} {w : World} {K K' : Act → World → Prop} {Q Q' : Exit → Act → World → Prop} (hp : ∀ c a w, ¬ Q (.panic c) a w) (hO : ¬ LetsOut Q) (h : o.wp P a w K Q)
    (hK : ∀ a' w', (∃ ds v, a' = ({ a with defers := ds } : Act).put o.dst v) → K a' w' → K' a' w') : o.wp P a w K' Q' := by
  unfold Oper.wp at *
  generalize (execOp a.eval o).run P w = r at *
  cases r with
  | ok n w' =>
    cases n with
    | value v => exact hK _ _ ⟨a.defers, v, rfl⟩ h
    | skip => exact hK _ _ ⟨a.defers, undef, rfl⟩ h
    | defer d => exact hK _ _ ⟨d :: a.defers, undef, rfl⟩ h
    | enter f args =>
      refine Calls.mono h fun e w'' he => ?_
      cases e with
      | returned v => exact hK _ _ ⟨a.defers, v, rfl⟩ he
      | panicked c => exact absurd he (hp _ _ _)
      | outgrown => exact absurd he hO
    | row row args => exact Rows.mono h fun v w'' he => hK _ _ ⟨a.defers, v, rfl⟩ he
    | _ => exact h.elim
  | halt x w' =>
    cases x with
    | panic v => exact absurd h (hp _ _ _)
    | _ => exact h.elim
section
variable {P : Program} {N : Nat} {w0 : World} {Q : Exit → Act → World → Prop} {e : Env} {I0 : Mem} {G : List Asn}
variable (P N w0) in
/-- What is to be shown of operation i. -/
def Lob (l : List Oper) (e : Env) (I0 : Mem) (pre us : Nat → List Nat) (K : Nat → Kn) (toks : List Tok) (i : Nat) (o : Oper) : Prop :=
  ∀ (Q : Exit → Act → World → Prop) (ρ : Nat → Value) (I : Mem) (H : List Asn), Mem.le I0 I → KAll K ρ I (us i) →
    (∀ v J, Mem.le I J → (K i).p v J → ∀ r, (∀ d, o.dst = some d → subEnv [(d, v)] r) → WX N w0 .normal Q r J (pick (fun T => oeq T.prod i) (upd ρ i v) toks ++ (pick (fun T => has T.bor i) ρ toks ++ H))) →
    WL P N w0 l.toArray Q [o] (uenv l K ρ (us i) ++ clears pre i l e) I (pick (fun T => oeq T.cons i) ρ toks ++ (pick (fun T => has T.bor i) ρ toks ++ H))
variable (P N w0) in
def Lobs (l : List Oper) (e : Env) (I0 : Mem) (pre us : Nat → List Nat) (K : Nat → Kn) (toks : List Tok) : Nat → List Oper → Prop
  | _, [] => True
  | i, o :: l' => Lob P N w0 l e I0 pre us K toks i o ∧ Lobs l e I0 pre us K toks (i + 1) l'
theorem Lobs.at {l : List Oper} {e : Env} {I0 : Mem} {pre us : Nat → List Nat} {K : Nat → Kn} {toks : List Tok} : ∀ {l' : List Oper} {i : Nat}, Lobs P N w0 l e I0 pre us K toks i l' → ∀ k o, l'[k]? = some o → Lob P N w0 l e I0 pre us K toks (i + k) o
  | [], _, _, k, o, h => by simp at h
  | o :: l', i, h, 0, o', h2 => by simp at h2; subst h2; exact h.1
  | o :: l', i, h, k + 1, o', h2 => by
    have := Lobs.at h.2 k o' (by simpa using h2)
    rwa [Nat.add_assoc, Nat.add_comm 1 k] at this
def live (D : Nat → Bool) (T : Tok) : Bool := (match T.prod with | none => true | some j => D j) && (match T.cons with | none => true | some c => !D c)
/-- How it stands when some operations have been done. -/
def Stood (P : Program) (N : Nat) (w0 : World) (l : List Oper) (e : Env) (I0 : Mem) (K : Nat → Kn) (toks : List Tok) (H : List Asn) (D : Nat → Bool) (a : Act) (w : World) : Prop :=
  (∀ i, D i = true → i < l.length) ∧ (∀ i o, l[i]? = some o → D i = true → ∀ x ∈ o.after.toList, Region.binds .any x = true → D x.on = true) ∧
  ∃ ρ I, Mem.le I0 I ∧ Ext w0 w ∧ a.defers = [] ∧ a.tmps.size = N ∧ (∀ t v, look e t = some v → (∀ i o, l[i]? = some o → o.dst = some t → D i = false) → a.tmps[t]? = some v) ∧
    (∀ i o d, l[i]? = some o → D i = true → o.dst = some d → a.tmps[d]? = some (ρ i)) ∧ (∀ i, i < l.length → D i = true → (K i).p (ρ i) I) ∧ SatW w I (pick (live D) ρ toks ++ H)
theorem pre_done {l : List Oper} {D : Nat → Bool} {pre us : Nat → List Nat} {n : Nat} (hA : okAll pre us n 0 l = true) (hc : ∀ i o, l[i]? = some o → D i = true → ∀ x ∈ o.after.toList, Region.binds .any x = true → D x.on = true) :
    ∀ (i : Nat) (o : Oper), l[i]? = some o → (∀ x ∈ o.after.toList, Region.binds .any x = true → D x.on = true) → ∀ j ∈ pre i, D j = true := by
  intro i
  induction i using Nat.strongRecOn with
  | _ i ih =>
    intro o ho hx j hj
    obtain ⟨h1, h2, _⟩ := okAll_at hA i o ho
    rw [Nat.zero_add] at h1 h2
    simp only [okPre, List.all_eq_true, List.any_eq_true, Bool.and_eq_true, Bool.or_eq_true] at h1
    obtain ⟨x, hx1, hb, h3⟩ := h1 j hj
    have hd := hx x hx1 hb
    rcases h3 with h3 | h3
    · rw [← Nat.eq_of_beq_eq_true h3]; exact hd
    · simp only [okAfter, List.all_eq_true, Bool.or_eq_true, Bool.not_eq_true'] at h2
      have hlt : x.on < i := by
        rcases h2 x hx1 with h | h
        · rw [hb] at h; cases h
        · simpa [Nat.blt_eq] using h
      have hil : i < l.length := (List.getElem?_eq_some_iff.1 ho).1
      obtain ⟨o', ho'⟩ : ∃ o', l[x.on]? = some o' := ⟨l[x.on], by simp⟩
      exact ih x.on hlt o' ho' (hc _ _ ho' hd) j (has_mem.1 h3)
theorem perm_parts (f g h : Tok → Bool) (ρ : Nat → Value) (H : List Asn) : ∀ l : List Tok, (∀ T ∈ l, h T = (f T || g T)) → (∀ T ∈ l, (f T && g T) = false) → (pick h ρ l ++ H).Perm (pick f ρ l ++ (pick g ρ l ++ H))
  | [], _, _ => List.Perm.refl _
  | T :: l, h1, h2 => by
    have ih := perm_parts f g h ρ H l (fun U hU => h1 U (by simp [hU])) (fun U hU => h2 U (by simp [hU]))
    have e1 := h1 T (by simp)
    have e2 := h2 T (by simp)
    unfold pick
    cases hf : f T with
    | true =>
      rw [hf] at e1 e2
      simp only [Bool.true_and] at e2
      rw [e1, e2]
      exact ih.cons _
    | false =>
      rw [hf] at e1
      cases hg : g T with
      | true =>
        rw [hg] at e1
        rw [e1]
        simp only [Bool.or_true, cond_true, cond_false, List.cons_append]
        exact (ih.cons _).trans List.perm_middle.symm
      | false =>
        rw [hg] at e1
        rw [e1]
        exact ih
theorem pick_congr {f g : Tok → Bool} {ρ ρ' : Nat → Value} : ∀ {l : List Tok}, (∀ T ∈ l, f T = g T) → (∀ T ∈ l, f T = true → T.val ρ = T.val ρ') → pick f ρ l = pick g ρ' l
  | [], _, _ => rfl
  | T :: l, h1, h2 => by
    unfold pick
    rw [← h1 T (by simp), pick_congr (l := l) (fun U hU => h1 U (by simp [hU])) (fun U hU => h2 U (by simp [hU]))]
    cases hf : f T with
    | true => rw [h2 T (by simp) hf]
    | false => rfl
theorem look_uenv {l : List Oper} {K : Nat → Kn} {ρ : Nat → Value} : ∀ {us : List Nat} {t : Nat} {v : Value}, look (uenv l K ρ us) t = some v → ∃ j ∈ us, dstOf l j = some t ∧ v = (K j).out (ρ j)
  | [], _, _, h => by cases h
  | j :: us, t, v, h => by
    unfold uenv at h
    cases hd : dstOf l j with
    | none =>
      rw [hd] at h
      obtain ⟨k, h1, h2⟩ := look_uenv h
      exact ⟨k, by simp [h1], h2⟩
    | some d =>
      rw [hd] at h
      simp only [look] at h
      cases hb : Nat.beq d t with
      | true =>
        rw [hb] at h
        obtain rfl := Nat.eq_of_beq_eq_true hb
        exact ⟨j, by simp, hd, (Option.some.inj h).symm⟩
      | false =>
        rw [hb] at h
        obtain ⟨k, h1, h2⟩ := look_uenv (by simpa using h)
        exact ⟨k, by simp [h1], h2⟩
theorem Stood.step {l : List Oper} {pre us : Nat → List Nat} {K : Nat → Kn} {toks : List Tok} {H : List Asn} {D D' : Nat → Bool} {a : Act} {w : World} {i : Nat} {o : Oper} (hA : okAll pre us l.length 0 l = true) (hD : okDst l = true) (hT : toks.all (okTok pre l.length) = true)
    (hl : Lobs P N w0 l e I0 pre us K toks 0 l) (hs : Stood P N w0 l e I0 K toks H D a w) (ho : l[i]? = some o) (hi : D i = false) (hr : ∀ x ∈ o.after.toList, Region.binds .any x = true → D x.on = true) (hD' : ∀ j, D' j = if j = i then true else D j) :
    wpOp P l.toArray Q i (Stood P N w0 l e I0 K toks H D') a w := by
  obtain ⟨hn, hc, ρ, I, hI, hx, hd0, hsz, he, hds, hK, hsat⟩ := hs
  have hpre := pre_done hA hc i o ho hr
  have hil : i < l.length := (List.getElem?_eq_some_iff.1 ho).1
  obtain ⟨hp1, hp2, hp3⟩ := okAll_at hA i o ho
  rw [Nat.zero_add] at hp1 hp2 hp3
  have hTs : ∀ T ∈ toks, okTok pre l.length T = true := List.all_eq_true.1 hT
  -- what lies in the slots
  have hgood : Good N (uenv l K ρ (us i) ++ clears pre i l e) a := by
    refine ⟨hd0, hsz, fun t v h => ?_⟩
    rcases look_append h with h | h
    · obtain ⟨j, hj, hjd, rfl⟩ := look_uenv h
      have hjD := hpre j (hp3 j hj)
      unfold dstOf at hjd
      obtain ⟨oj, hoj, hojd⟩ := Option.bind_eq_some_iff.1 hjd
      have hjl : j < l.length := (List.getElem?_eq_some_iff.1 hoj).1
      rw [(K j).ok (hK j hjl hjD)]
      exact hds j oj t hoj hjD hojd
    · rcases look_clears h with ⟨h1, h2⟩ | h
      · refine he t v h1 fun j oj hoj hjt => ?_
        have hm := clear_spec h2 j oj hoj hjt
        rw [Nat.zero_add] at hm
        cases hDj : D j with
        | false => rfl
        | true =>
          have := pre_done hA hc j oj hoj (hc j oj hoj hDj) i hm
          rw [hi] at this; cases this
      · exact h.elim
  have hKA : KAll K ρ I (us i) := KAll.of fun j hj => hK j (by
    have hjp := hp3 j hj
    have : D j = true := hpre j hjp
    simp only [okPre, List.all_eq_true, List.any_eq_true, Bool.and_eq_true, Bool.or_eq_true] at hp1
    clear this
    -- what comes ahead of i has a smaller number
    have key : ∀ (m : Nat), m < l.length → ∀ j ∈ pre m, j < l.length := by
      intro m
      induction m using Nat.strongRecOn with
      | _ m ih =>
        intro hm j hj
        obtain ⟨om, hom⟩ : ∃ om, l[m]? = some om := ⟨l[m], by simp [hm]⟩
        obtain ⟨q1, q2, _⟩ := okAll_at hA m om hom
        rw [Nat.zero_add] at q1 q2
        simp only [okPre, List.all_eq_true, List.any_eq_true, Bool.and_eq_true, Bool.or_eq_true] at q1
        obtain ⟨x, x1, x2, x3⟩ := q1 j hj
        simp only [okAfter, List.all_eq_true, Bool.or_eq_true, Bool.not_eq_true'] at q2
        have hlt : x.on < m := by
          rcases q2 x x1 with h | h
          · rw [x2] at h; cases h
          · simpa [Nat.blt_eq] using h
        rcases x3 with x3 | x3
        · rw [← Nat.eq_of_beq_eq_true x3]; omega
        · exact ih x.on hlt (by omega) j (has_mem.1 x3)
    exact key i hil j hjp) (hpre j (hp3 j hj))
  -- what is owned
  have hlive : ∀ T ∈ toks, oeq T.cons i = true → live D T = true := fun T hTm hci => by
    have hok := hTs T hTm
    have hcons := oeq_some.1 hci
    simp only [okTok, hcons, Bool.and_eq_true, List.all_eq_true] at hok
    replace hok := hok.2
    unfold live
    rw [hcons]
    simp only [hi, Bool.not_false, Bool.and_true]
    cases hp : T.prod with
    | none => rfl
    | some j => rw [hp] at hok; exact hpre j (has_mem.1 (by simp only [Bool.and_eq_true] at hok; exact hok.1.2))
  have hliveb : ∀ T ∈ toks, has T.bor i = true → live D T = true := fun T hTm hbi => by
    have hok := hTs T hTm
    have hb := has_mem.1 hbi
    simp only [okTok, Bool.and_eq_true] at hok
    replace hok := hok.2
    unfold live
    refine Bool.and_eq_true_iff.2 ⟨?_, ?_⟩
    · cases hp : T.prod with
      | none => rfl
      | some j =>
        have h1 := hok.1
        rw [hp] at h1
        simp only [Bool.and_eq_true, List.all_eq_true] at h1
        exact hpre j (has_mem.1 (h1.1.2 i hb))
    · cases hq : T.cons with
      | none => rfl
      | some c =>
        have h1 := hok.2
        rw [hq] at h1
        simp only [Bool.and_eq_true, List.all_eq_true] at h1
        have hic := has_mem.1 (h1.2 i hb)
        simp only [Bool.not_eq_true']
        cases hDc : D c with
        | false => rfl
        | true =>
          obtain ⟨oc, hoc⟩ : ∃ oc, l[c]? = some oc := ⟨l[c]'(hn c hDc), by simp [hn c hDc]⟩
          have := pre_done hA hc c oc hoc (hc c oc hoc hDc) i hic
          rw [hi] at this; cases this
  have hnoself : ∀ T ∈ toks, oeq T.cons i = true → has T.bor i = false := fun T hTm hci => by
    have hok := hTs T hTm
    have hcons := oeq_some.1 hci
    simp only [okTok, hcons, Bool.and_eq_true] at hok
    replace hok := hok.2
    have := hok.2.1
    simp at this
    exact this.2
  have p1 := perm_parts (fun T => oeq T.cons i) (fun T => live D T && !oeq T.cons i) (live D) ρ H toks
    (fun T hTm => by cases h1 : oeq T.cons i <;> simp; exact hlive T hTm h1) (fun T _ => by cases oeq T.cons i <;> simp)
  have p2 := perm_parts (fun T => has T.bor i) (fun T => live D T && !oeq T.cons i && !has T.bor i) (fun T => live D T && !oeq T.cons i) ρ H toks
    (fun T hTm => by
      cases h1 : has T.bor i with
      | false => simp
      | true =>
        have h2 := hliveb T hTm h1
        have h3 : oeq T.cons i = false := by
          cases h3 : oeq T.cons i with
          | false => rfl
          | true => have := hnoself T hTm h3; rw [h1] at this; cases this
        simp [h2, h3]) (fun T _ => by cases has T.bor i <;> simp)
  have hsat2 : SatW w I (pick (fun T => oeq T.cons i) ρ toks ++ (pick (fun T => has T.bor i) ρ toks ++ (pick (fun T => live D T && !oeq T.cons i && !has T.bor i) ρ toks ++ H))) :=
    hsat.perm (p1.trans (List.Perm.append_left _ p2))
  have hL := hl.at i o ho
  rw [Nat.zero_add] at hL
  have hrun := hL (fun x a' w' => x = .normal ∧ ∃ v J, Mem.le I J ∧ (K i).p v J ∧ (∀ d, o.dst = some d → a'.tmps[d]? = some v) ∧ a'.defers = [] ∧ a'.tmps.size = N ∧ Ext w0 w' ∧
      SatW w' J (pick (fun T => oeq T.prod i) (upd ρ i v) toks ++ (pick (fun T => has T.bor i) ρ toks ++ (pick (fun T => live D T && !oeq T.cons i && !has T.bor i) ρ toks ++ H))))
    ρ I (pick (fun T => live D T && !oeq T.cons i && !has T.bor i) ρ toks ++ H) hI hKA (fun v J hJ hk r hr a' w' ha' hx' hw' => ⟨rfl, v, J, hJ, hk, fun d hd => by
      have := ha'.sub (hr d hd)
      exact this.2.2 d v (by simp [look]), ha'.1, ha'.2.1, hx', hw'⟩) a w hgood hx hsat2
  -- the step's end
  have hend : ∀ a' w', (∃ ds v, a' = ({ a with defers := ds } : Act).put o.dst v) → (∃ v J, Mem.le I J ∧ (K i).p v J ∧ (∀ d, o.dst = some d → a'.tmps[d]? = some v) ∧ a'.defers = [] ∧ a'.tmps.size = N ∧ Ext w0 w' ∧
      SatW w' J (pick (fun T => oeq T.prod i) (upd ρ i v) toks ++ (pick (fun T => has T.bor i) ρ toks ++ (pick (fun T => live D T && !oeq T.cons i && !has T.bor i) ρ toks ++ H)))) → Stood P N w0 l e I0 K toks H D' a' w' := by
    rintro a' w' ⟨ds, v0, rfl⟩ ⟨v, J, hJ, hk, hv, hdf, hsz', hx', hw'⟩
    have hother : ∀ t, o.dst ≠ some t → (({ a with defers := ds } : Act).put o.dst v0).tmps[t]? = a.tmps[t]? := fun t ht => by
      cases hod : o.dst with
      | none => rfl
      | some d =>
        have hdt : d ≠ t := fun h => ht (by rw [hod, h])
        simp [Act.put, hdt]
    have hDD : ∀ j, D j = true → D' j = true := fun j hj => by rw [hD']; split <;> simp [hj]
    have hD'i : D' i = true := by rw [hD', if_pos rfl]
    have hDn : ∀ j, j ≠ i → D' j = D j := fun j hj => by rw [hD', if_neg hj]
    refine ⟨fun j hj => ?_, fun j oj hoj hj x hx1 hx2 => ?_, upd ρ i v, J, hI.trans hJ, hx', hdf, hsz', fun t u hl1 hl2 => ?_, fun j oj d hoj hj hd => ?_, fun j hjl hj => ?_, ?_⟩
    · by_cases hji : j = i
      · subst hji; exact hil
      · rw [hDn j hji] at hj; exact hn j hj
    · by_cases hji : j = i
      · subst hji
        rw [ho] at hoj
        obtain rfl := Option.some.inj hoj
        exact hDD _ (hr x hx1 hx2)
      · rw [hDn j hji] at hj
        exact hDD _ (hc j oj hoj hj x hx1 hx2)
    · rw [hother t (fun h => by have := hl2 i o ho h; rw [hD'i] at this; cases this)]
      refine he t u hl1 fun j oj hoj hjt => ?_
      have := hl2 j oj hoj hjt
      cases hDj : D j with
      | false => rfl
      | true => rw [hDD j hDj] at this; cases this
    · by_cases hji : j = i
      · subst hji
        rw [ho] at hoj
        obtain rfl := Option.some.inj hoj
        rw [hv d hd, upd_same]
      · rw [hDn j hji] at hj
        rw [hother d (fun h => hji (okDst_ne hD j i oj o d hoj ho hd h)), hds j oj d hoj hj hd]
        rw [upd_other ρ v hji]
    · by_cases hji : j = i
      · subst hji; rw [upd_same]; exact hk
      · rw [hDn j hji] at hj
        rw [upd_other ρ v hji]
        exact (K j).up hJ (hK j hjl hj)
    · have hTp : ∀ T ∈ toks, oeq T.prod i = true → live D' T = true := fun T hTm hpi => by
        have hok := hTs T hTm
        have hpr := oeq_some.1 hpi
        simp only [okTok, hpr, Bool.and_eq_true] at hok
        replace hok := hok.2
        unfold live
        rw [hpr]
        simp only [hD'i, Bool.true_and]
        cases hq : T.cons with
        | none => rfl
        | some c =>
          rw [hq] at hok
          simp only at hok
          have hic := has_mem.1 hok.1.2
          have hci : c ≠ i := fun h => by
            subst h
            have := hpre c hic
            rw [hi] at this; cases this
          simp only [Bool.not_eq_true']
          rw [hDn c hci]
          cases hDc : D c with
          | false => rfl
          | true =>
            obtain ⟨oc, hoc⟩ : ∃ oc, l[c]? = some oc := ⟨l[c]'(hn c hDc), by simp [hn c hDc]⟩
            have := pre_done hA hc c oc hoc (hc c oc hoc hDc) i hic
            rw [hi] at this; cases this
      have hlv : ∀ T ∈ toks, (live D' T && !oeq T.prod i) = (live D T && !oeq T.cons i) := fun T _ => by
        unfold live
        have h1 : ∀ j, (D' j && !Nat.beq j i) = D j := fun j => by
          by_cases hji : j = i
          · subst hji; rw [hi, Nat.beq_refl]; simp
          · rw [hDn j hji, beqf hji]; simp
        have h2 : ∀ c, (!D' c) = (!D c && !Nat.beq c i) := fun c => by
          by_cases hci : c = i
          · subst hci; rw [hD'i, Nat.beq_refl]; simp
          · rw [hDn c hci, beqf hci]; simp
        cases hp : T.prod with
        | none =>
          cases hq : T.cons with
          | none => simp [oeq]
          | some c => simp [oeq, h2 c]
        | some j =>
          cases hq : T.cons with
          | none => simp [oeq, ← h1 j]
          | some c =>
            simp only [oeq, h2 c]
            rw [← h1 j]
            cases D' j <;> cases D c <;> cases Nat.beq c i <;> cases Nat.beq j i <;> rfl
      have q1 := perm_parts (fun T => oeq T.prod i) (fun T => live D' T && !oeq T.prod i) (live D') (upd ρ i v) H toks
        (fun T hTm => by cases h1 : oeq T.prod i <;> simp; exact hTp T hTm h1) (fun T _ => by cases oeq T.prod i <;> simp)
      have q2 : pick (fun T => live D' T && !oeq T.prod i) (upd ρ i v) toks = pick (fun T => live D T && !oeq T.cons i) ρ toks := pick_congr hlv fun T hTm h => by
        unfold Tok.val
        have hok := hTs T hTm
        simp only [okTok, Bool.and_eq_true] at hok
        have hdp := hok.1
        congr 1
        refine mapv_congr fun j hj => upd_other ρ v ?_
        rintro rfl
        simp only [Bool.and_eq_true, Bool.not_eq_true'] at h
        unfold okDeps at hdp
        cases hp : T.prod with
        | none =>
          rw [hp] at hdp
          simp only [List.isEmpty_iff] at hdp
          rw [hdp] at hj; cases hj
        | some q =>
          rw [hp] at hdp h
          simp only [List.all_eq_true, Bool.or_eq_true] at hdp
          have hq : q ≠ j := fun e => by subst e; simp [oeq] at h
          rcases hdp j hj with e | e
          · exact hq (Nat.eq_of_beq_eq_true e).symm
          · have hl := h.1
            unfold live at hl
            rw [hp] at hl
            simp only [Bool.and_eq_true] at hl
            rw [hDn q hq] at hl
            obtain ⟨oq, hoq⟩ : ∃ oq, l[q]? = some oq := ⟨l[q]'(hn q hl.1), by simp [hn q hl.1]⟩
            have := pre_done hA hc q oq hoq (hc q oq hoq hl.1) j (has_mem.1 e)
            rw [hi] at this; cases this
      rw [q2] at q1
      exact hw'.perm (q1.trans (List.Perm.append_left _ p2)).symm
  unfold wpList at hrun
  unfold wpOp
  have hgo : l.toArray[i]? = some o := by simpa using ho
  rw [hgo]
  show if Region.wanted o (yielded l.toArray a.tmps) = true then _ else _
  split at hrun
  · rename_i hw
    rw [if_pos hw]
    refine .inl ?_
    have hO : ¬ LetsOut (fun (x : Exit) (a' : Act) (w' : World) => x = .normal ∧ ∃ v J, Mem.le I J ∧ (K i).p v J ∧ (∀ d, o.dst = some d → a'.tmps[d]? = some v) ∧ a'.defers = [] ∧ a'.tmps.size = N ∧ Ext w0 w' ∧
      SatW w' J (pick (fun T => oeq T.prod i) (upd ρ i v) toks ++ (pick (fun T => has T.bor i) ρ toks ++ (pick (fun T => live D T && !oeq T.cons i && !has T.bor i) ρ toks ++ H)))) := fun ⟨_, _, h, _⟩ => by cases h
    rcases hrun with hrun | ⟨_, hrun⟩
    · exact wp_to (fun c a w h => by cases h.1) hO hrun fun a' w' ha' hk => hend a' w' ha' hk.2
    · exact absurd hrun hO
  · rename_i hw
    rw [if_neg hw]
    exact hend _ _ ⟨a.defers, undef, rfl⟩ hrun.2
theorem mem_ready {ops : Array Oper} {listed : Array Bool} {i : Nat} : i ∈ Region.ready .any ops listed ↔ i < ops.size ∧ listed.getD i true = false ∧ ∃ o, ops[i]? = some o ∧ ∀ x ∈ o.after.toList, Region.binds .any x = true → listed.getD x.on false = true := by
  unfold Region.ready
  rw [List.mem_filter, List.mem_range]
  constructor
  · rintro ⟨h1, h2⟩
    simp only [Bool.and_eq_true, Bool.not_eq_true'] at h2
    refine ⟨h1, h2.1, ops[i], by simp [h1], fun x hx hb => ?_⟩
    have h3 := h2.2
    rw [show ops[i]? = some ops[i] from by simp [h1]] at h3
    simp only [Option.map_some, Option.getD_some, Array.all_eq_true'] at h3
    have := h3 x (by simpa using hx)
    simpa [hb] using this
  · rintro ⟨h1, h2, o, h3, h4⟩
    refine ⟨h1, ?_⟩
    rw [h2, h3]
    simp only [Bool.not_false, Option.map_some, Option.getD_some, Bool.true_and, Array.all_eq_true']
    intro x hx
    cases hb : Region.binds .any x with
    | false => rfl
    | true => simpa [hb] using h4 x (by simpa using hx) hb
theorem Stood.any {l : List Oper} {pre us : Nat → List Nat} {K : Nat → Kn} {toks : List Tok} {H : List Asn} (hA : okAll pre us l.length 0 l = true) (hD : okDst l = true) (hT : toks.all (okTok pre l.length) = true) (hl : Lobs P N w0 l e I0 pre us K toks 0 l)
    (hfin : ∀ a w, Stood P N w0 l e I0 K toks H (fun i => decide (i < l.length)) a w → Q .normal a w) : ∀ (fuel : Nat) (listed : Array Bool) (a : Act) (w : World), listed.size = l.length → listed.toList.count false ≤ fuel → Stood P N w0 l e I0 K toks H (fun i => listed.getD i false) a w → wpAny P .any l.toArray Q fuel listed a w := by
  have done : ∀ (listed : Array Bool) (a : Act) (w : World), listed.size = l.length → Region.ready .any l.toArray listed = [] → Stood P N w0 l e I0 K toks H (fun i => listed.getD i false) a w → Q .normal a w := by
    intro listed a w hs hr hst
    refine hfin a w ?_
    have hall : ∀ i, i < l.length → listed.getD i false = true := by
      intro i
      induction i using Nat.strongRecOn with
      | _ i ih =>
        intro hi
        cases hlf : listed.getD i false with
        | true => rfl
        | false =>
          have : i ∈ Region.ready .any l.toArray listed := by
            refine mem_ready.2 ⟨by simpa using hi, ?_, l[i], by simp [hi], fun x hx hb => ?_⟩
            · have hh : i < listed.size := by omega
              simp [hh] at hlf ⊢; exact hlf
            · obtain ⟨_, h2, _⟩ := okAll_at hA i l[i] (by simp [hi])
              rw [Nat.zero_add] at h2
              simp only [okAfter, List.all_eq_true, Bool.or_eq_true, Bool.not_eq_true'] at h2
              have hlt : x.on < i := by
                rcases h2 x hx with h | h
                · rw [hb] at h; cases h
                · simpa [Nat.blt_eq] using h
              exact ih x.on hlt (by omega)
          rw [hr] at this; cases this
    have e : (fun i => listed.getD i false) = fun i => decide (i < l.length) := by
      funext i
      by_cases hi : i < l.length
      · rw [hall i hi]; simp [hi]
      · have : ¬ i < listed.size := by omega
        simp [hi, this]
    rw [e] at hst
    exact hst
  intro fuel
  induction fuel with
  | zero =>
    intro listed a w hs hcnt hst
    have hr : Region.ready .any l.toArray listed = [] := by
      refine List.eq_nil_iff_forall_not_mem.2 fun i hi => ?_
      obtain ⟨h1, h2, _⟩ := mem_ready.1 hi
      have hil : i < listed.size := by simp at h1; omega
      have hf : listed[i] = false := by simpa [hil] using h2
      have : false ∈ listed.toList := by rw [← hf]; simp
      have := List.count_pos_iff.2 this
      omega
    exact ⟨hr, done listed a w hs hr hst⟩
  | succ fuel ih =>
    intro listed a w hs hcnt hst
    refine ⟨fun hr => done listed a w hs hr hst, fun i hi => ?_⟩
    obtain ⟨h1, h2, o, h3, h4⟩ := mem_ready.1 hi
    have hil : i < listed.size := by simp at h1; omega
    have hf : listed[i] = false := by simpa [hil] using h2
    refine wpOp_mono (fun a' w' hs' => ih (listed.setIfInBounds i true) a' w' (by simpa using hs) ?_ hs') (hst.step (D' := fun j => (listed.setIfInBounds i true).getD j false) hA hD hT hl (by simpa using h3) (by simp [hil, hf]) h4 fun j => ?_)
    · have hc : (listed.setIfInBounds i true).toList.count false = listed.toList.count false - 1 := by
        simp only [Array.toList_setIfInBounds]
        rw [List.count_set (by simpa using hil)]
        simp [hf]
      omega
    · by_cases hj : j = i
      · subst hj; simp [hil]
      · have : ¬ i = j := fun h => hj h.symm
        simp [this, hj]
theorem uenv_range {l : List Oper} {K : Nat → Kn} {ρ : Nat → Value} {n : Nat} : ∀ {t : Nat} {v : Value}, look (uenv l K ρ (List.range n)) t = some v → ∃ j, j < n ∧ dstOf l j = some t ∧ v = (K j).out (ρ j) := fun h => by
  obtain ⟨j, h1, h2⟩ := look_uenv h
  exact ⟨j, List.mem_range.1 h1, h2⟩
/-- A statement whose order is open. toks: what is owned on the way, those that are there ahead of it first in G. -/
theorem WC.drawn {id : Nat} {l : List Oper} {H : List Asn} (hm : P.follows .mixedOrders = true) (pre us : Nat → List Nat) (K : Nat → Kn) (toks : List Tok) (hA : okAll pre us l.length 0 l = true) (hD : okDst l = true) (hT : toks.all (okTok pre l.length) = true) (hG : G = pick (fun T => match T.prod with | none => true | some _ => false) (fun _ => undef) toks ++ H)
    (hl : Lobs P N w0 l e I0 pre us K toks 0 l)
    (hfin : ∀ ρ I, Mem.le I0 I → KAll K ρ I (List.range l.length) → WX N w0 .normal Q (uenv l K ρ (List.range l.length) ++ clears (fun _ => []) 0 l e) I (pick (fun T => match T.cons with | none => true | some _ => false) ρ toks ++ H)) : WC P N w0 (.region id l.toArray true) Q e I0 G := fun a w ha hx hw => by
  subst hG
  refine wp_region_any hm (Stood.any (K := K) (toks := toks) (H := H) (e := e) (I0 := I0) (N := N) (w0 := w0) hA hD hT hl (fun a' w' hs => ?_) _ _ _ _ (by simp) ?_ ?_)
  · obtain ⟨hn, hc, ρ, I, hI, hx', hd0, hsz, he, hds, hK, hsat⟩ := hs
    refine hfin ρ I hI (KAll.of fun j hj => hK j (List.mem_range.1 hj) (by simpa using hj)) a' w' ⟨hd0, hsz, fun t v h => ?_⟩ hx' ?_
    · rcases look_append h with h | h
      · obtain ⟨j, hj, hjd, rfl⟩ := uenv_range h
        unfold dstOf at hjd
        obtain ⟨oj, hoj, hojd⟩ := Option.bind_eq_some_iff.1 hjd
        rw [(K j).ok (hK j hj (by simpa using hj))]
        exact hds j oj t hoj (by simpa using hj) hojd
      · rcases look_clears h with ⟨h1, h2⟩ | h
        · refine he t v h1 fun j oj hoj hjt => ?_
          have := clear_spec h2 j oj hoj hjt
          cases this
        · exact h.elim
    · have e1 : pick (live fun i => decide (i < l.length)) ρ toks = pick (fun T => match T.cons with | none => true | some _ => false) ρ toks := pick_congr (fun T hTm => by
        have hok := List.all_eq_true.1 hT T hTm
        simp only [okTok, Bool.and_eq_true] at hok
        replace hok := hok.2
        unfold live
        cases hp : T.prod with
        | none =>
          cases hq : T.cons with
          | none => rfl
          | some c =>
            have h2 := hok.2
            rw [hq] at h2
            simp only [Bool.and_eq_true] at h2
            have : c < l.length := by simpa [Nat.blt_eq] using h2.1.1
            simp [this]
        | some j =>
          have h1 := hok.1
          rw [hp] at h1
          simp only [Bool.and_eq_true] at h1
          have hj : j < l.length := by simpa [Nat.blt_eq] using h1.1.1
          cases hq : T.cons with
          | none => simp [hj]
          | some c =>
            have h2 := hok.2
            rw [hq] at h2
            simp only [Bool.and_eq_true] at h2
            have : c < l.length := by simpa [Nat.blt_eq] using h2.1.1
            simp [this]) fun _ _ _ => rfl
      rw [e1] at hsat
      exact hsat
  · simp
  · have hD0 : ∀ i, (Array.replicate l.toArray.size false).getD i false = false := fun i => by
      by_cases hi : i < l.length <;> simp [hi]
    refine ⟨fun i hi => ?_, fun i o _ hi => ?_, fun _ => undef, I0, Mem.le.refl _, hx.trans (Ext.drawn w _), ha.1, ha.2.1, fun t v h _ => ha.2.2 t v h, fun i o d _ hi => ?_, fun i _ hi => ?_, ?_⟩
    · exact absurd (hi.symm.trans (hD0 i)) (by decide)
    · exact absurd (hi.symm.trans (hD0 i)) (by decide)
    · exact absurd (hi.symm.trans (hD0 i)) (by decide)
    · exact absurd (hi.symm.trans (hD0 i)) (by decide)
    · have e2 : pick (live fun i => (Array.replicate l.toArray.size false).getD i false) (fun _ => undef) toks = pick (fun T => match T.prod with | none => true | some _ => false) (fun _ => undef) toks := pick_congr (fun T _ => by
        unfold live
        cases T.prod with
        | none =>
          cases T.cons with
          | none => rfl
          | some c => simp only [hD0 c]; rfl
        | some j => simp only [hD0 j]; rfl) fun _ _ _ => rfl
      rw [e2]
      exact hw
theorem WX.hd {α : Type} [GoT α] {x : Exit} {I : Mem} {E : TypeId} {v : Value} {xs : List α} (k : ∀ ao c, v = .slice ao xs.length c → WX N w0 x Q e I (OV E v xs :: G)) : WX N w0 x Q e I (OV E v xs :: G) := fun a w ha hx hw => by
  obtain ⟨m, _, hv⟩ := hw.at (k := 0) rfl
  obtain ⟨ao, c, h⟩ := OV.hd_of hv
  exact k ao c h a w ha hx hw
def nthL : List (List Nat) → Nat → List Nat
  | [], _ => []
  | l :: ls, i => bif Nat.beq i 0 then l else nthL ls (i - 1)
def nthK : List Kn → Nat → Kn
  | [], _ => .any
  | l :: ls, i => bif Nat.beq i 0 then l else nthK ls (i - 1)
end
end Go.Proofs.Ytcfapdamgbbklaa
