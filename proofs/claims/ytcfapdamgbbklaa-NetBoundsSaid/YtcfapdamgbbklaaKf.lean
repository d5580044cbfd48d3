/- Printed by a program of this session: facts on the types and functions of the program. -/
import Derived.Test.YtcfapdamgbbklaaDt
import Derived.Test.YtcfapdamgbbklaaSk
namespace Go.Proofs.Ytcfapdamgbbklaa
set_option linter.unusedVariables false
instance : GoT net_bag where
  sz := 2
  agg := true
  rep I cs x := ∃ v0 : Value, cs = [v0, .bool x.spoilt_] ∧ IV I v0 x.b_
  pos := by decide
  one1 h := by cases h
  len h := by obtain ⟨v0, rfl, h0⟩ := h; rfl
  up k h := by obtain ⟨v0, rfl, h0⟩ := h; exact ⟨v0, rfl, h0.up k⟩
  one h := by
    obtain ⟨v0, rfl, h0⟩ := h
    intro v hv
    simp only [List.mem_cons, List.not_mem_nil, or_false] at hv
    rcases hv with rfl | rfl <;> first | rfl | exact h0.one
theorem Rv.of_net_bag {I : Mem} {v : Value} {x : net_bag} (h : Rv I v x) : ∃ a0 c0, v = .agg #[(.slice a0 x.b_.length c0), .bool x.spoilt_] ∧ IV I (.slice a0 x.b_.length c0) x.b_ := by
  obtain ⟨cs, ⟨v0, rfl, h0⟩, rfl⟩ := h
  obtain ⟨a0, c0, rfl⟩ := h0.hd
  exact ⟨a0, c0, rfl, h0⟩
theorem Rv.mk_net_bag {I : Mem} (x : net_bag) {v0 : Value} (h0 : IV I v0 x.b_) : Rv I (.agg #[v0, .bool x.spoilt_]) x := ⟨_, ⟨_, rfl, h0⟩, rfl⟩
def Ob_net_Net (g : Nat) (s : net_Net) : Asn := ⟨fun I h => ∃ v0 v1 : Value, sat [bl g #[v0, v1] 43, OV 47 v0 s.l_0, OV 47 v1 s.l_1] I h, fun q h => by obtain ⟨v0, v1, y⟩ := h; exact ⟨v0, v1, sat.up q y⟩⟩
theorem WL.open_net_Net {P : Program} {N : Nat} {w0 : World} {ops : Array Oper} {Q : Exit → Act → World → Prop} {l : List Oper} {e : Env} {I : Mem} {G : List Asn} {g : Nat} {s : net_Net} (k : ∀ a0 c0 a1 c1, WL P N w0 ops Q l e I (bl g #[(.slice a0 s.l_0.length c0), (.slice a1 s.l_1.length c1)] 43 :: OV 47 (.slice a0 s.l_0.length c0) s.l_0 :: OV 47 (.slice a1 s.l_1.length c1) s.l_1 :: G)) : WL P N w0 ops Q l e I (Ob_net_Net g s :: G) := fun a w ha hx hw => by
  obtain ⟨m, x1, x2, x3, h1, h2, x4, x5, x6, x7, x8⟩ := hw
  obtain ⟨v0, v1, y⟩ := x7
  obtain ⟨a0, c0, rfl⟩ := OV.hd_at (k := 1) y rfl
  obtain ⟨a1, c1, rfl⟩ := OV.hd_at (k := 2) y rfl
  exact k a0 c0 a1 c1  a w ha hx (SatW.unpack (L := [bl g #[(.slice a0 s.l_0.length c0), (.slice a1 s.l_1.length c1)] 43, OV 47 (.slice a0 s.l_0.length c0) s.l_0, OV 47 (.slice a1 s.l_1.length c1) s.l_1]) ⟨m, x1, x2, x3, h1, h2, x4, x5, x6, y, x8⟩)
theorem WL.shut_net_Net {P : Program} {N : Nat} {w0 : World} {ops : Array Oper} {Q : Exit → Act → World → Prop} {l : List Oper} {e : Env} {I : Mem} {G : List Asn} {g : Nat} (s : net_Net) {v0 : Value} {v1 : Value} (k : WL P N w0 ops Q l e I (Ob_net_Net g s :: G)) : WL P N w0 ops Q l e I (bl g #[v0, v1] 43 :: OV 47 v0 s.l_0 :: OV 47 v1 s.l_1 :: G) := WL.conv (H := Ob_net_Net g s :: G) (fun w hw => SatW.conv (A := Pk [bl g #[v0, v1] 43, OV 47 v0 s.l_0, OV 47 v1 s.l_1]) (B := Ob_net_Net g s) (fun h q => ⟨_, _, q⟩) (SatW.pack (L := [bl g #[v0, v1] 43, OV 47 v0 s.l_0, OV 47 v1 s.l_1]) hw)) k
theorem WC.open_net_Net {P : Program} {N : Nat} {w0 : World} {Q : Exit → Act → World → Prop} {c : Code} {e : Env} {I : Mem} {G : List Asn} {g : Nat} {s : net_Net} (k : ∀ a0 c0 a1 c1, WC P N w0 c Q e I (bl g #[(.slice a0 s.l_0.length c0), (.slice a1 s.l_1.length c1)] 43 :: OV 47 (.slice a0 s.l_0.length c0) s.l_0 :: OV 47 (.slice a1 s.l_1.length c1) s.l_1 :: G)) : WC P N w0 c Q e I (Ob_net_Net g s :: G) := fun a w ha hx hw => by
  obtain ⟨m, x1, x2, x3, h1, h2, x4, x5, x6, x7, x8⟩ := hw
  obtain ⟨v0, v1, y⟩ := x7
  obtain ⟨a0, c0, rfl⟩ := OV.hd_at (k := 1) y rfl
  obtain ⟨a1, c1, rfl⟩ := OV.hd_at (k := 2) y rfl
  exact k a0 c0 a1 c1  a w ha hx (SatW.unpack (L := [bl g #[(.slice a0 s.l_0.length c0), (.slice a1 s.l_1.length c1)] 43, OV 47 (.slice a0 s.l_0.length c0) s.l_0, OV 47 (.slice a1 s.l_1.length c1) s.l_1]) ⟨m, x1, x2, x3, h1, h2, x4, x5, x6, y, x8⟩)
theorem WC.shut_net_Net {P : Program} {N : Nat} {w0 : World} {Q : Exit → Act → World → Prop} {c : Code} {e : Env} {I : Mem} {G : List Asn} {g : Nat} (s : net_Net) {v0 : Value} {v1 : Value} (k : WC P N w0 c Q e I (Ob_net_Net g s :: G)) : WC P N w0 c Q e I (bl g #[v0, v1] 43 :: OV 47 v0 s.l_0 :: OV 47 v1 s.l_1 :: G) := WC.conv (H := Ob_net_Net g s :: G) (fun w hw => SatW.conv (A := Pk [bl g #[v0, v1] 43, OV 47 v0 s.l_0, OV 47 v1 s.l_1]) (B := Ob_net_Net g s) (fun h q => ⟨_, _, q⟩) (SatW.pack (L := [bl g #[v0, v1] 43, OV 47 v0 s.l_0, OV 47 v1 s.l_1]) hw)) k
theorem WX.open_net_Net {N : Nat} {w0 : World} {Q : Exit → Act → World → Prop} {x : Exit} {e : Env} {I : Mem} {G : List Asn} {g : Nat} {s : net_Net} (k : ∀ a0 c0 a1 c1, WX N w0 x Q e I (bl g #[(.slice a0 s.l_0.length c0), (.slice a1 s.l_1.length c1)] 43 :: OV 47 (.slice a0 s.l_0.length c0) s.l_0 :: OV 47 (.slice a1 s.l_1.length c1) s.l_1 :: G)) : WX N w0 x Q e I (Ob_net_Net g s :: G) := fun a w ha hx hw => by
  obtain ⟨m, x1, x2, x3, h1, h2, x4, x5, x6, x7, x8⟩ := hw
  obtain ⟨v0, v1, y⟩ := x7
  obtain ⟨a0, c0, rfl⟩ := OV.hd_at (k := 1) y rfl
  obtain ⟨a1, c1, rfl⟩ := OV.hd_at (k := 2) y rfl
  exact k a0 c0 a1 c1  a w ha hx (SatW.unpack (L := [bl g #[(.slice a0 s.l_0.length c0), (.slice a1 s.l_1.length c1)] 43, OV 47 (.slice a0 s.l_0.length c0) s.l_0, OV 47 (.slice a1 s.l_1.length c1) s.l_1]) ⟨m, x1, x2, x3, h1, h2, x4, x5, x6, y, x8⟩)
theorem WX.shut_net_Net {N : Nat} {w0 : World} {Q : Exit → Act → World → Prop} {x : Exit} {e : Env} {I : Mem} {G : List Asn} {g : Nat} (s : net_Net) {v0 : Value} {v1 : Value} (k : WX N w0 x Q e I (Ob_net_Net g s :: G)) : WX N w0 x Q e I (bl g #[v0, v1] 43 :: OV 47 v0 s.l_0 :: OV 47 v1 s.l_1 :: G) := WX.conv (H := Ob_net_Net g s :: G) (fun w hw => SatW.conv (A := Pk [bl g #[v0, v1] 43, OV 47 v0 s.l_0, OV 47 v1 s.l_1]) (B := Ob_net_Net g s) (fun h q => ⟨_, _, q⟩) (SatW.pack (L := [bl g #[v0, v1] 43, OV 47 v0 s.l_0, OV 47 v1 s.l_1]) hw)) k
instance : GoT api_Packet where
  sz := 9
  agg := true
  rep I cs x := ∃ v0 : Value, cs = [.int .i64 x.Kind, .int .i64 x.Path, .int .i64 x.Number, .int .i64 x.Of, .int .i64 x.From, v0, .bool x.Fin, .int .i64 x.Seen, .int .i64 x.Limit] ∧ IV I v0 x.Data
  pos := by decide
  one1 h := by cases h
  len h := by obtain ⟨v0, rfl, h0⟩ := h; rfl
  up k h := by obtain ⟨v0, rfl, h0⟩ := h; exact ⟨v0, rfl, h0.up k⟩
  one h := by
    obtain ⟨v0, rfl, h0⟩ := h
    intro v hv
    simp only [List.mem_cons, List.not_mem_nil, or_false] at hv
    rcases hv with rfl | rfl | rfl | rfl | rfl | rfl | rfl | rfl | rfl <;> first | rfl | exact h0.one
theorem Rv.of_api_Packet {I : Mem} {v : Value} {x : api_Packet} (h : Rv I v x) : ∃ a0 c0, v = .agg #[.int .i64 x.Kind, .int .i64 x.Path, .int .i64 x.Number, .int .i64 x.Of, .int .i64 x.From, (.slice a0 x.Data.length c0), .bool x.Fin, .int .i64 x.Seen, .int .i64 x.Limit] ∧ IV I (.slice a0 x.Data.length c0) x.Data := by
  obtain ⟨cs, ⟨v0, rfl, h0⟩, rfl⟩ := h
  obtain ⟨a0, c0, rfl⟩ := h0.hd
  exact ⟨a0, c0, rfl, h0⟩
theorem Rv.mk_api_Packet {I : Mem} (x : api_Packet) {v0 : Value} (h0 : IV I v0 x.Data) : Rv I (.agg #[.int .i64 x.Kind, .int .i64 x.Path, .int .i64 x.Number, .int .i64 x.Of, .int .i64 x.From, v0, .bool x.Fin, .int .i64 x.Seen, .int .i64 x.Limit]) x := ⟨_, ⟨_, rfl, h0⟩, rfl⟩
instance : GoT span_Reader where
  sz := 3
  agg := true
  rep I cs x := ∃ v0 : Value, cs = [v0, .int .i64 x.at_, .bool x.bad_] ∧ IV I v0 x.b_
  pos := by decide
  one1 h := by cases h
  len h := by obtain ⟨v0, rfl, h0⟩ := h; rfl
  up k h := by obtain ⟨v0, rfl, h0⟩ := h; exact ⟨v0, rfl, h0.up k⟩
  one h := by
    obtain ⟨v0, rfl, h0⟩ := h
    intro v hv
    simp only [List.mem_cons, List.not_mem_nil, or_false] at hv
    rcases hv with rfl | rfl | rfl <;> first | rfl | exact h0.one
theorem Rv.of_span_Reader {I : Mem} {v : Value} {x : span_Reader} (h : Rv I v x) : ∃ a0 c0, v = .agg #[(.slice a0 x.b_.length c0), .int .i64 x.at_, .bool x.bad_] ∧ IV I (.slice a0 x.b_.length c0) x.b_ := by
  obtain ⟨cs, ⟨v0, rfl, h0⟩, rfl⟩ := h
  obtain ⟨a0, c0, rfl⟩ := h0.hd
  exact ⟨a0, c0, rfl, h0⟩
theorem Rv.mk_span_Reader {I : Mem} (x : span_Reader) {v0 : Value} (h0 : IV I v0 x.b_) : Rv I (.agg #[v0, .int .i64 x.at_, .bool x.bad_]) x := ⟨_, ⟨_, rfl, h0⟩, rfl⟩
def Ob_span_Reader (g : Nat) (s : span_Reader) : Asn := ⟨fun I h => ∃ v0 : Value, h g = some (.cells #[v0, .int .i64 s.at_, .bool s.bad_] 59 (0, 0)) ∧ IV I v0 s.b_, fun q h => by obtain ⟨v0, k, f0⟩ := h; exact ⟨v0, k, f0.up q⟩⟩
theorem WL.open_span_Reader {P : Program} {N : Nat} {w0 : World} {ops : Array Oper} {Q : Exit → Act → World → Prop} {l : List Oper} {e : Env} {I : Mem} {G : List Asn} {g : Nat} {s : span_Reader} (k : ∀ a0 c0, IV I (.slice a0 s.b_.length c0) s.b_ → WL P N w0 ops Q l e I (bl g #[(.slice a0 s.b_.length c0), .int .i64 s.at_, .bool s.bad_] 59 :: G)) : WL P N w0 ops Q l e I (Ob_span_Reader g s :: G) := fun a w ha hx hw => by
  obtain ⟨m, x1, x2, x3, h1, h2, x4, x5, x6, x7, x8⟩ := hw
  obtain ⟨v0, y, f0⟩ := x7
  obtain ⟨a0, c0, rfl⟩ := f0.hd
  exact k a0 c0 f0 a w ha hx ⟨m, x1, x2, x3, h1, h2, x4, x5, x6, y, x8⟩
theorem WL.shut_span_Reader {P : Program} {N : Nat} {w0 : World} {ops : Array Oper} {Q : Exit → Act → World → Prop} {l : List Oper} {e : Env} {I : Mem} {G : List Asn} {g : Nat} (s : span_Reader) {v0 : Value} (h0 : IV I v0 s.b_) (k : WL P N w0 ops Q l e I (Ob_span_Reader g s :: G)) : WL P N w0 ops Q l e I (bl g #[v0, .int .i64 s.at_, .bool s.bad_] 59 :: G) := WL.conv (H := Ob_span_Reader g s :: G) (fun w hw => SatW.conv (B := Ob_span_Reader g s) (fun h q => ⟨_, q, h0⟩) hw) k
theorem WC.open_span_Reader {P : Program} {N : Nat} {w0 : World} {Q : Exit → Act → World → Prop} {c : Code} {e : Env} {I : Mem} {G : List Asn} {g : Nat} {s : span_Reader} (k : ∀ a0 c0, IV I (.slice a0 s.b_.length c0) s.b_ → WC P N w0 c Q e I (bl g #[(.slice a0 s.b_.length c0), .int .i64 s.at_, .bool s.bad_] 59 :: G)) : WC P N w0 c Q e I (Ob_span_Reader g s :: G) := fun a w ha hx hw => by
  obtain ⟨m, x1, x2, x3, h1, h2, x4, x5, x6, x7, x8⟩ := hw
  obtain ⟨v0, y, f0⟩ := x7
  obtain ⟨a0, c0, rfl⟩ := f0.hd
  exact k a0 c0 f0 a w ha hx ⟨m, x1, x2, x3, h1, h2, x4, x5, x6, y, x8⟩
theorem WC.shut_span_Reader {P : Program} {N : Nat} {w0 : World} {Q : Exit → Act → World → Prop} {c : Code} {e : Env} {I : Mem} {G : List Asn} {g : Nat} (s : span_Reader) {v0 : Value} (h0 : IV I v0 s.b_) (k : WC P N w0 c Q e I (Ob_span_Reader g s :: G)) : WC P N w0 c Q e I (bl g #[v0, .int .i64 s.at_, .bool s.bad_] 59 :: G) := WC.conv (H := Ob_span_Reader g s :: G) (fun w hw => SatW.conv (B := Ob_span_Reader g s) (fun h q => ⟨_, q, h0⟩) hw) k
theorem WX.open_span_Reader {N : Nat} {w0 : World} {Q : Exit → Act → World → Prop} {x : Exit} {e : Env} {I : Mem} {G : List Asn} {g : Nat} {s : span_Reader} (k : ∀ a0 c0, IV I (.slice a0 s.b_.length c0) s.b_ → WX N w0 x Q e I (bl g #[(.slice a0 s.b_.length c0), .int .i64 s.at_, .bool s.bad_] 59 :: G)) : WX N w0 x Q e I (Ob_span_Reader g s :: G) := fun a w ha hx hw => by
  obtain ⟨m, x1, x2, x3, h1, h2, x4, x5, x6, x7, x8⟩ := hw
  obtain ⟨v0, y, f0⟩ := x7
  obtain ⟨a0, c0, rfl⟩ := f0.hd
  exact k a0 c0 f0 a w ha hx ⟨m, x1, x2, x3, h1, h2, x4, x5, x6, y, x8⟩
theorem WX.shut_span_Reader {N : Nat} {w0 : World} {Q : Exit → Act → World → Prop} {x : Exit} {e : Env} {I : Mem} {G : List Asn} {g : Nat} (s : span_Reader) {v0 : Value} (h0 : IV I v0 s.b_) (k : WX N w0 x Q e I (Ob_span_Reader g s :: G)) : WX N w0 x Q e I (bl g #[v0, .int .i64 s.at_, .bool s.bad_] 59 :: G) := WX.conv (H := Ob_span_Reader g s :: G) (fun w hw => SatW.conv (B := Ob_span_Reader g s) (fun h q => ⟨_, q, h0⟩) hw) k
theorem bt43 : BT Try.prog 43 #[.slice none 0 0, .slice none 0 0] #[(0, 2)] := fun parts => by
  have h : Try.prog.built 43 = fun parts => Instr.fill (fun i => (#[(0, 2)] : Array (Nat × Nat))[i]?) #[.slice none 0 0, .slice none 0 0] parts := by kernel_rfl
  rw [h]
theorem fl29_0 : Fld Try.prog 29 0 0 := Fld.mk (n := 0) Try.underlying29 rfl rfl (by kernel_rfl)
theorem na3 : NA Try.prog 3 := Try.isAgg3
theorem fl29_3 : Fld Try.prog 29 3 3 := Fld.mk (n := 0) Try.underlying29 rfl rfl (by kernel_rfl)
theorem cl42 : Cl Try.prog 42 := Cl.mk Try.func42 rfl (by kernel_rfl)
theorem fl29_4 : Fld Try.prog 29 4 4 := Fld.mk (n := 0) Try.underlying29 rfl rfl (by kernel_rfl)
theorem fl29_5 : Fld Try.prog 29 5 5 := Fld.mk (n := 0) Try.underlying29 rfl rfl (by kernel_rfl)
theorem na27 : NA Try.prog 27 := Try.isAgg27
theorem et27 : ET Try.prog 27 5 (.int .u8 0) 1 UInt8 := ⟨Try.underlying27, by kernel_rfl, rfl, Try.isAgg5⟩
theorem fl29_7 : Fld Try.prog 29 7 7 := Fld.mk (n := 0) Try.underlying29 rfl rfl (by kernel_rfl)
theorem fl29_8 : Fld Try.prog 29 8 8 := Fld.mk (n := 0) Try.underlying29 rfl rfl (by kernel_rfl)
theorem fl29_1 : Fld Try.prog 29 1 1 := Fld.mk (n := 0) Try.underlying29 rfl rfl (by kernel_rfl)
theorem fl29_2 : Fld Try.prog 29 2 2 := Fld.mk (n := 0) Try.underlying29 rfl rfl (by kernel_rfl)
theorem bt29 : BT Try.prog 29 #[.int .i64 0, .int .i64 0, .int .i64 0, .int .i64 0, .int .i64 0, .slice none 0 0, .bool false, .int .i64 0, .int .i64 0] #[(0, 1), (1, 1), (2, 1), (3, 1), (4, 1), (5, 1), (6, 1), (7, 1), (8, 1)] := fun parts => by
  have h : Try.prog.built 29 = fun parts => Instr.fill (fun i => (#[(0, 1), (1, 1), (2, 1), (3, 1), (4, 1), (5, 1), (6, 1), (7, 1), (8, 1)] : Array (Nat × Nat))[i]?) #[.int .i64 0, .int .i64 0, .int .i64 0, .int .i64 0, .int .i64 0, .slice none 0 0, .bool false, .int .i64 0, .int .i64 0] parts := by kernel_rfl
  rw [h]
theorem sz29 : SZ Try.prog 29 9 := Try.sizeOf29
theorem sz3 : SZ Try.prog 3 1 := Try.sizeOf3
theorem ya29 : YA Try.prog 29 9 := fun w => ⟨Try.isAgg29 w, Try.sizeOf29 w⟩
theorem fl29_6 : Fld Try.prog 29 6 6 := Fld.mk (n := 0) Try.underlying29 rfl rfl (by kernel_rfl)
theorem na4 : NA Try.prog 4 := Try.isAgg4
theorem sz27 : SZ Try.prog 27 1 := Try.sizeOf27
theorem sz4 : SZ Try.prog 4 1 := Try.sizeOf4
theorem mo : Try.prog.follows .mixedOrders = true := by kernel_rfl
theorem cl21 : Cl Try.prog 21 := Cl.mk Try.func21 rfl (by kernel_rfl)
theorem cl41 : Cl Try.prog 41 := Cl.mk Try.func41 rfl (by kernel_rfl)
theorem cl44 : Cl Try.prog 44 := Cl.mk Try.func44 rfl (by kernel_rfl)
theorem cl43 : Cl Try.prog 43 := Cl.mk Try.func43 rfl (by kernel_rfl)
theorem cl46 : Cl Try.prog 46 := Cl.mk Try.func46 rfl (by kernel_rfl)
theorem na5 : NA Try.prog 5 := Try.isAgg5
theorem cl47 : Cl Try.prog 47 := Cl.mk Try.func47 rfl (by kernel_rfl)
theorem sz5 : SZ Try.prog 5 1 := Try.sizeOf5
theorem et74 : ET Try.prog 74 27 (.slice none 0 0) 24 (List UInt8) := ⟨Try.underlying74, by kernel_rfl, rfl, Try.isAgg27⟩
theorem cl45 : Cl Try.prog 45 := Cl.mk Try.func45 rfl (by kernel_rfl)
theorem cl35 : Cl Try.prog 35 := Cl.mk Try.func35 rfl (by kernel_rfl)
theorem cl34 : Cl Try.prog 34 := Cl.mk Try.func34 rfl (by kernel_rfl)
theorem cl33 : Cl Try.prog 33 := Cl.mk Try.func33 rfl (by kernel_rfl)
theorem cl36 : Cl Try.prog 36 := Cl.mk Try.func36 rfl (by kernel_rfl)
theorem cl37 : Cl Try.prog 37 := Cl.mk Try.func37 rfl (by kernel_rfl)
theorem cl26 : Cl Try.prog 26 := Cl.mk Try.func26 rfl (by kernel_rfl)
theorem cl27 : Cl Try.prog 27 := Cl.mk Try.func27 rfl (by kernel_rfl)
theorem cl15 : Cl Try.prog 15 := Cl.mk Try.func15 rfl (by kernel_rfl)
theorem fl43_0 : Fld Try.prog 43 0 0 := Fld.mk (n := 1) Try.underlying43 rfl rfl (by kernel_rfl)
theorem at41 : AT Try.prog 41 40 2 1 := ⟨Try.underlying41, Try.sizeOf40⟩
theorem na40 : NA Try.prog 40 := Try.isAgg40
theorem et40 : ET Try.prog 40 47 (.agg #[.slice none 0 0, .bool false]) 32 net_bag := ⟨Try.underlying40, by kernel_rfl, rfl, Try.isAgg47⟩
theorem cl16 : Cl Try.prog 16 := Cl.mk Try.func16 rfl (by kernel_rfl)
theorem cl11 : Cl Try.prog 11 := Cl.mk Try.func11 rfl (by kernel_rfl)
theorem bt47 : BT Try.prog 47 #[.slice none 0 0, .bool false] #[(0, 1), (1, 1)] := fun parts => by
  have h : Try.prog.built 47 = fun parts => Instr.fill (fun i => (#[(0, 1), (1, 1)] : Array (Nat × Nat))[i]?) #[.slice none 0 0, .bool false] parts := by kernel_rfl
  rw [h]
theorem sz40 : SZ Try.prog 40 1 := Try.sizeOf40
theorem cl17 : Cl Try.prog 17 := Cl.mk Try.func17 rfl (by kernel_rfl)
theorem fp47_0 : FP net_bag (List UInt8) (fun x => x.b_) 0 := ⟨fun {I cs x} h => by obtain ⟨v0, rfl, h0⟩ := h; exact ⟨[], [v0], [.bool x.spoilt_], rfl, rfl, ⟨_, rfl, h0⟩⟩⟩
theorem fl47_0 : Fld Try.prog 47 0 0 := Fld.mk (n := 0) Try.underlying47 rfl rfl (by kernel_rfl)
theorem cl18 : Cl Try.prog 18 := Cl.mk Try.func18 rfl (by kernel_rfl)
theorem cl8 : Cl Try.prog 8 := Cl.mk Try.func8 rfl (by kernel_rfl)
theorem cl19 : Cl Try.prog 19 := Cl.mk Try.func19 rfl (by kernel_rfl)
theorem ya47 : YA Try.prog 47 2 := fun w => ⟨Try.isAgg47 w, Try.sizeOf47 w⟩
theorem fp47_1 : FP net_bag Bool (fun x => x.spoilt_) 1 := ⟨fun {I cs x} h => by obtain ⟨v0, rfl, h0⟩ := h; exact ⟨[v0], [.bool x.spoilt_], [], rfl, rfl, rfl⟩⟩
theorem fl47_1 : Fld Try.prog 47 1 1 := Fld.mk (n := 0) Try.underlying47 rfl rfl (by kernel_rfl)
theorem cl20 : Cl Try.prog 20 := Cl.mk Try.func20 rfl (by kernel_rfl)
theorem sz47 : SZ Try.prog 47 2 := Try.sizeOf47
theorem cl5 : Cl Try.prog 5 := Cl.mk Try.func5 rfl (by kernel_rfl)
theorem pt22 : Try.prog.underlying 22 = some (.pointer (Try.prog.pointee 22)) := by kernel_rfl
theorem cl7 : Cl Try.prog 7 := Cl.mk Try.func7 rfl (by kernel_rfl)
theorem cl9 : Cl Try.prog 9 := Cl.mk Try.func9 rfl (by kernel_rfl)
theorem cl6 : Cl Try.prog 6 := Cl.mk Try.func6 rfl (by kernel_rfl)
theorem cl10 : Cl Try.prog 10 := Cl.mk Try.func10 rfl (by kernel_rfl)
theorem cl12 : Cl Try.prog 12 := Cl.mk Try.func12 rfl (by kernel_rfl)
theorem cl13 : Cl Try.prog 13 := Cl.mk Try.func13 rfl (by kernel_rfl)
theorem bt59 : BT Try.prog 59 #[.slice none 0 0, .int .i64 0, .bool false] #[(0, 1), (1, 1), (2, 1)] := fun parts => by
  have h : Try.prog.built 59 = fun parts => Instr.fill (fun i => (#[(0, 1), (1, 1), (2, 1)] : Array (Nat × Nat))[i]?) #[.slice none 0 0, .int .i64 0, .bool false] parts := by kernel_rfl
  rw [h]
theorem fl59_0 : Fld Try.prog 59 0 0 := Fld.mk (n := 0) Try.underlying59 rfl rfl (by kernel_rfl)
theorem fl59_1 : Fld Try.prog 59 1 1 := Fld.mk (n := 0) Try.underlying59 rfl rfl (by kernel_rfl)
theorem fl59_2 : Fld Try.prog 59 2 2 := Fld.mk (n := 0) Try.underlying59 rfl rfl (by kernel_rfl)
theorem cl25 : Cl Try.prog 25 := Cl.mk Try.func25 rfl (by kernel_rfl)
theorem cl40 : Cl Try.prog 40 := Cl.mk Try.func40 rfl (by kernel_rfl)
theorem cl29 : Cl Try.prog 29 := Cl.mk Try.func29 rfl (by kernel_rfl)
theorem cl30 : Cl Try.prog 30 := Cl.mk Try.func30 rfl (by kernel_rfl)
theorem cl32 : Cl Try.prog 32 := Cl.mk Try.func32 rfl (by kernel_rfl)
theorem cl31 : Cl Try.prog 31 := Cl.mk Try.func31 rfl (by kernel_rfl)
theorem cl22 : Cl Try.prog 22 := Cl.mk Try.func22 rfl (by kernel_rfl)
theorem cl23 : Cl Try.prog 23 := Cl.mk Try.func23 rfl (by kernel_rfl)
theorem cl24 : Cl Try.prog 24 := Cl.mk Try.func24 rfl (by kernel_rfl)
theorem cl14 : Cl Try.prog 14 := Cl.mk Try.func14 rfl (by kernel_rfl)
theorem et66 : ET Try.prog 66 35 (.int .u32 0) 4 UInt32 := ⟨Try.underlying66, by kernel_rfl, rfl, Try.isAgg35⟩
end Go.Proofs.Ytcfapdamgbbklaa
