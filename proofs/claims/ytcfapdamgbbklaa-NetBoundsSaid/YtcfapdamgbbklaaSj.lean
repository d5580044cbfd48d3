/- A logic of owned and of lasting memory: things that own others; arrays. -/
import Derived.Test.YtcfapdamgbbklaaSh
namespace Go.Proofs.Ytcfapdamgbbklaa
open Go.RowKit
set_option linter.unusedVariables false

/-- Two lists, each of its own part. -/
theorem sat.app : ∀ {L G : List Asn} {I h1 h2 : Mem}, Mem.off h1 h2 → sat L I h1 → sat G I h2 → sat (L ++ G) I (Mem.or h1 h2)
  | [], G, I, h1, h2, ho, _, hg => sat.wide (Mem.le_or_right ho) hg
  | A :: L, G, I, h1, h2, ho, ⟨ha, hb, o, l1, l2, a, s⟩, hg => by
    have ob2 : Mem.off hb h2 := ho.le l2 (.refl _)
    have oa2 : Mem.off ha h2 := ho.le l1 (.refl _)
    refine ⟨ha, Mem.or hb h2, ?_, l1.trans (Mem.le_or_left _ _), ?_, a, sat.app ob2 s hg⟩
    · intro b x k
      simp [Mem.or, o b x k, oa2 b x k]
    · intro b x k
      rcases Mem.or_some k with k | k
      · exact Mem.le_or_left _ _ _ _ (l2 _ _ k)
      · exact Mem.le_or_right ho _ _ k
theorem sat.part : ∀ {L G : List Asn} {I h : Mem}, sat (L ++ G) I h → ∃ h1 h2, Mem.off h1 h2 ∧ Mem.le h1 h ∧ Mem.le h2 h ∧ sat L I h1 ∧ sat G I h2
  | [], G, I, h, k => ⟨fun _ => none, h, (fun _ _ x => by cases x), (fun _ _ x => by cases x), .refl _, trivial, k⟩
  | A :: L, G, I, h, ⟨ha, hb, o, l1, l2, a, s⟩ => by
    obtain ⟨h1, h2, o2, m1, m2, s1, s2⟩ := sat.part s
    have oa1 : Mem.off ha h1 := o.le (.refl _) m1
    have oa2 : Mem.off ha h2 := o.le (.refl _) m2
    refine ⟨Mem.or ha h1, h2, ?_, ?_, m2.trans l2, ⟨ha, h1, oa1, Mem.le_or_left _ _, Mem.le_or_right oa1, a, s1⟩, s2⟩
    · intro b x k
      rcases Mem.or_some k with k | k
      · exact oa2 b x k
      · exact o2 b x k
    · intro b x k
      rcases Mem.or_some k with k | k
      · exact l1 _ _ k
      · exact l2 _ _ (m1 _ _ k)
/-- Many things as one. -/
def Pk (L : List Asn) : Asn := ⟨fun I h => sat L I h, sat.up⟩
theorem sat.unpack {L G : List Asn} {I h : Mem} (k : sat (Pk L :: G) I h) : sat (L ++ G) I h := by
  obtain ⟨h1, h2, o, l1, l2, a, s⟩ := k
  refine sat.wide ?_ (sat.app o a s)
  intro b x k
  rcases Mem.or_some k with k | k
  · exact l1 _ _ k
  · exact l2 _ _ k
theorem sat.pack {L G : List Asn} {I h : Mem} (k : sat (L ++ G) I h) : sat (Pk L :: G) I h := by
  obtain ⟨h1, h2, o, l1, l2, a, s⟩ := sat.part k
  exact ⟨h1, h2, o, l1, l2, a, s⟩
theorem SatW.unpack {w : World} {I : Mem} {L G : List Asn} (k : SatW w I (Pk L :: G)) : SatW w I (L ++ G) := by
  obtain ⟨m, a, b, c, d⟩ := k
  exact ⟨m, a, b, c, d.unpack⟩
theorem SatW.pack {w : World} {I : Mem} {L G : List Asn} (k : SatW w I (L ++ G)) : SatW w I (Pk L :: G) := by
  obtain ⟨m, a, b, c, d⟩ := k
  exact ⟨m, a, b, c, d.pack⟩
theorem sat.mem_at {L : List Asn} {I h : Mem} {k : Nat} {A : Asn} (s : sat L I h) (e : L[k]? = some A) : ∃ m, A.val I m := by
  obtain ⟨m, _, x⟩ := s.at e
  exact ⟨m, x⟩
theorem OV.hd_at {α : Type} [GoT α] {L : List Asn} {I h : Mem} {k : Nat} {E : TypeId} {v : Value} {xs : List α} (s : sat L I h) (e : L[k]? = some (OV E v xs)) : ∃ ao c, v = .slice ao xs.length c := by
  obtain ⟨m, x⟩ := s.mem_at e
  exact OV.hd_of x
section
variable {P : Program} {N : Nat} {w0 : World} {ops : Array Oper} {Q : Exit → Act → World → Prop} {l : List Oper} {e : Env} {I : Mem} {G : List Asn} {d : Nat} {t : TypeId} {p : String} {af : Array Edge}
/-- An array type. -/
structure AT (P : Program) (T E : TypeId) (n sz : Nat) : Prop where
  ht : P.underlying T = some (.array n E)
  hs : ∀ w, (sizeOf E).run P w = .ok sz w
/-- The address of an element of an array. -/
theorem ixa {x y : Operand} {T E : TypeId} {n sz g o i o' : Nat} {ki : IntKind} {z : Int} (A : AT P T E n sz) (hx : ev e x = some (.pointer (some ⟨g, o, none⟩))) (hy : ev e y = some (.int ki z)) (hz : z = (i : Int)) (hi : Nat.blt i n = true) (ho : o + i * sz = o') (hd : Nat.blt d N = true)
    (k : WL P N w0 ops Q l ((d, .pointer (some ⟨g, o', none⟩)) :: e) I G) : WL P N w0 ops Q (⟨some d, .indexAddr T x y, t, p, af, none⟩ :: l) e I G :=
  WL.rd hd (fun a w ha hw => by
    subst hz ho
    have h2 : i < n := by simpa [Nat.blt_eq] using hi
    have hr : (Instr.indexAt T (.pointer (some ⟨g, o, none⟩)) (.int ki (i : Int))).run P w = .ok (.pointer (some ⟨g, o + i * sz, none⟩)) w := by
      simp [Instr.indexAt, asIntOf, run_underlying A.ht, h2, A.hs, Instr.sureAddr, Addr.add_lit]
    simp only [execOp, ha.ev hx, ha.ev hy, Sem.run_bind, hr]
    rfl) k
end
/-- A field of a structure: which of its cells. -/
structure FP (α β : Type) [GoT α] [GoT β] (pr : α → β) (off : Nat) : Prop where
  p : ∀ {I : Mem} {cs : List Value} {x : α}, GoT.rep I cs x → ∃ c0 c1 c2, cs = c0 ++ (c1 ++ c2) ∧ c0.length = off ∧ GoT.rep I c1 (pr x)
theorem FP.comp {α β γ : Type} [GoT α] [GoT β] [GoT γ] {f : α → β} {g : β → γ} {m n : Nat} (F : FP α β f m) (K : FP β γ g n) : FP α γ (fun x => g (f x)) (m + n) := ⟨fun h => by
  obtain ⟨c0, c1, c2, rfl, h1, h2⟩ := F.p h
  obtain ⟨d0, d1, d2, rfl, k1, k2⟩ := K.p h2
  exact ⟨c0 ++ d0, d1, d2 ++ c2, by simp, by simp [h1, k1], k2⟩⟩
/-- An address of a field of element i of a slice. -/
def AtF (α : Type) [GoT α] (v : Value) (i o : Nat) (u : Value) : Prop := ∃ g off n cap, v = .slice (some ⟨g, off, none⟩) n cap ∧ u = .pointer (some ⟨g, off + i * GoT.sz α + o, none⟩)
section
variable {α β : Type} [GoT α] [GoT β] {P : Program} {N : Nat} {w0 : World} {ops : Array Oper} {Q : Exit → Act → World → Prop} {l : List Oper} {e : Env} {I : Mem} {G : List Asn} {d : Nat} {t : TypeId} {p : String} {af : Array Edge}
/-- The address of a field of lasting data. -/
theorem fai {x : Operand} {s : TypeId} {f o : Nat} {u : Value} {z : α} {pr : α → β} (hF : Fld P s f o) (F : FP α β pr o) (hx : ev e x = some u) (hu : IP I u z) (hd : Nat.blt d N = true) (k : ∀ r, IP I r (pr z) → WL P N w0 ops Q l ((d, r) :: e) I G) :
    WL P N w0 ops Q (⟨some d, .fieldAddr s x f, t, p, af, none⟩ :: l) e I G := by
  obtain ⟨g, o', C, E, fr, cs, sp, rfl, b, c, h⟩ := hu
  obtain ⟨c0, c1, c2, rfl, h1, h2⟩ := F.p h
  refine fa hF hx hd (k _ ⟨g, o' + o, C, E, fr, c1, c2 ++ sp, rfl, b, ?_, h2⟩)
  rw [← List.drop_drop, c, ← h1]
  simp
/-- The address of a field of an element of a slice of one's own. -/
theorem faa {x : Operand} {s : TypeId} {f o i : Nat} {v u : Value} (hF : Fld P s f o) (hx : ev e x = some u) (hu : At α v i u) (hd : Nat.blt d N = true) (k : ∀ r, AtF α v i o r → WL P N w0 ops Q l ((d, r) :: e) I G) :
    WL P N w0 ops Q (⟨some d, .fieldAddr s x f, t, p, af, none⟩ :: l) e I G := by
  obtain ⟨g, off, n, cap, rfl, rfl⟩ := hu
  exact fa hF hx hd (k _ ⟨g, off, n, cap, rfl, rfl⟩)
theorem faaf {x : Operand} {s : TypeId} {f o i o' : Nat} {v u : Value} (hF : Fld P s f o) (hx : ev e x = some u) (hu : AtF α v i o' u) (hd : Nat.blt d N = true) (k : ∀ r, AtF α v i (o' + o) r → WL P N w0 ops Q l ((d, r) :: e) I G) :
    WL P N w0 ops Q (⟨some d, .fieldAddr s x f, t, p, af, none⟩ :: l) e I G := by
  obtain ⟨g, off, n, cap, rfl, rfl⟩ := hu
  exact fa hF hx hd (k _ ⟨g, off, n, cap, rfl, by rw [Nat.add_assoc]⟩)
/-- A load of a field of an element of a slice of one's own. -/
theorem ldof {x : Operand} {v u : Value} {xs : List α} {i o : Nat} {z : α} {F E' : TypeId} {pr : α → β} (kk : Nat) (hF : (if GoT.agg β then YA P F (GoT.sz β) else NA P F)) (hx : ev e x = some u) (hu : AtF α v i o u) (hk : G[kk]? = some (OV E' v xs)) (hz : xs[i]? = some z) (K : FP α β pr o) (hd : Nat.blt d N = true) (k : ∀ r, Rv I r (pr z) → WL P N w0 ops Q l ((d, r) :: e) I G) :
    WL P N w0 ops Q (⟨some d, .load F x, t, p, af, none⟩ :: l) e I G := WL.eff hd fun ac w ha _ hw => by
  obtain ⟨m, hm, hv⟩ := hw.at hk
  obtain ⟨g, off, n, cap, rfl, rfl⟩ := hu
  rcases hv with ⟨h, _⟩ | ⟨g', off', cap', C, h, b, ⟨cs, sp, c1, c2, c3⟩, c⟩
  · cases h
  · injection h with h _ _
    injection h with h
    injection h with h h' _
    subst h h'
    obtain ⟨c0, c4, c5, e, e2, e3⟩ := c2.get hz
    obtain ⟨d0, d1, d2, e4, e5, e6⟩ := K.p e3
    obtain ⟨r, hr, hrv⟩ := run_ldT (P := P) (o := off + i * GoT.sz α + o) (cs := d1) (sp := d2 ++ (c5 ++ sp)) hF (hm _ _ b) (by
      rw [Nat.add_assoc, ← List.drop_drop, c1, e, ← e2, ← List.drop_drop, e4, ← e5]; simp) e6
    exact ⟨r, w, I, G, by simp only [execOp, ha.ev hx, Sem.run_bind, hr]; rfl, Ext.refl w, hw, k r hrv⟩
end
end Go.Proofs.Ytcfapdamgbbklaa
