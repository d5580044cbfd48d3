/- Printed by a program of this session: facts on the types and functions of the program. -/
import Derived.Test.YtgobccnphhljcaaDt
import Derived.Test.YtgobccnphhljcaaSi
namespace Go.Proofs.Ytgobccnphhljcaa
set_option linter.unusedVariables false
instance : GoT api_Packet where
  sz := 9
  agg := true
  rep I cs x := ∃ v0 : Value, cs = [.int .i64 x.Kind, .int .i64 x.Path, .int .i64 x.Number, .int .i64 x.Of, .int .i64 x.From, v0, .bool x.Fin, .int .i64 x.Seen, .int .i64 x.Limit] ∧ IV I v0 x.Data
  pos := by decide
  one1 h := by cases h
  len h := by obtain ⟨v0, rfl, h0⟩ := h; rfl
  up k h := by obtain ⟨v0, rfl, h0⟩ := h; exact ⟨v0, rfl, h0.up k⟩
  one h := by
    obtain ⟨v0, rfl, h0⟩ := h
    intro v hv
    simp only [List.mem_cons, List.not_mem_nil, or_false] at hv
    rcases hv with rfl | rfl | rfl | rfl | rfl | rfl | rfl | rfl | rfl <;> first | rfl | exact h0.one
theorem Rv.of_api_Packet {I : Mem} {v : Value} {x : api_Packet} (h : Rv I v x) : ∃ a0 c0, v = .agg #[.int .i64 x.Kind, .int .i64 x.Path, .int .i64 x.Number, .int .i64 x.Of, .int .i64 x.From, (.slice a0 x.Data.length c0), .bool x.Fin, .int .i64 x.Seen, .int .i64 x.Limit] ∧ IV I (.slice a0 x.Data.length c0) x.Data := by
  obtain ⟨cs, ⟨v0, rfl, h0⟩, rfl⟩ := h
  obtain ⟨a0, c0, rfl⟩ := h0.hd
  exact ⟨a0, c0, rfl, h0⟩
theorem Rv.mk_api_Packet {I : Mem} (x : api_Packet) {v0 : Value} (h0 : IV I v0 x.Data) : Rv I (.agg #[.int .i64 x.Kind, .int .i64 x.Path, .int .i64 x.Number, .int .i64 x.Of, .int .i64 x.From, v0, .bool x.Fin, .int .i64 x.Seen, .int .i64 x.Limit]) x := ⟨_, ⟨_, rfl, h0⟩, rfl⟩
instance : GoT span_Reader where
  sz := 3
  agg := true
  rep I cs x := ∃ v0 : Value, cs = [v0, .int .i64 x.at_, .bool x.bad_] ∧ IV I v0 x.b_
  pos := by decide
  one1 h := by cases h
  len h := by obtain ⟨v0, rfl, h0⟩ := h; rfl
  up k h := by obtain ⟨v0, rfl, h0⟩ := h; exact ⟨v0, rfl, h0.up k⟩
  one h := by
    obtain ⟨v0, rfl, h0⟩ := h
    intro v hv
    simp only [List.mem_cons, List.not_mem_nil, or_false] at hv
    rcases hv with rfl | rfl | rfl <;> first | rfl | exact h0.one
theorem Rv.of_span_Reader {I : Mem} {v : Value} {x : span_Reader} (h : Rv I v x) : ∃ a0 c0, v = .agg #[(.slice a0 x.b_.length c0), .int .i64 x.at_, .bool x.bad_] ∧ IV I (.slice a0 x.b_.length c0) x.b_ := by
  obtain ⟨cs, ⟨v0, rfl, h0⟩, rfl⟩ := h
  obtain ⟨a0, c0, rfl⟩ := h0.hd
  exact ⟨a0, c0, rfl, h0⟩
theorem Rv.mk_span_Reader {I : Mem} (x : span_Reader) {v0 : Value} (h0 : IV I v0 x.b_) : Rv I (.agg #[v0, .int .i64 x.at_, .bool x.bad_]) x := ⟨_, ⟨_, rfl, h0⟩, rfl⟩
def Ob_span_Reader (g : Nat) (s : span_Reader) : Asn := ⟨fun I h => ∃ v0 : Value, h g = some (.cells #[v0, .int .i64 s.at_, .bool s.bad_] 94 (0, 0)) ∧ IV I v0 s.b_, fun q h => by obtain ⟨v0, k, f0⟩ := h; exact ⟨v0, k, f0.up q⟩⟩
theorem WL.open_span_Reader {P : Program} {N : Nat} {w0 : World} {ops : Array Oper} {Q : Exit → Act → World → Prop} {l : List Oper} {e : Env} {I : Mem} {G : List Asn} {g : Nat} {s : span_Reader} (k : ∀ a0 c0, IV I (.slice a0 s.b_.length c0) s.b_ → WL P N w0 ops Q l e I (bl g #[(.slice a0 s.b_.length c0), .int .i64 s.at_, .bool s.bad_] 94 :: G)) : WL P N w0 ops Q l e I (Ob_span_Reader g s :: G) := fun a w ha hx hw => by
  obtain ⟨m, x1, x2, x3, h1, h2, x4, x5, x6, x7, x8⟩ := hw
  obtain ⟨v0, y, f0⟩ := x7
  obtain ⟨a0, c0, rfl⟩ := f0.hd
  exact k a0 c0 f0 a w ha hx ⟨m, x1, x2, x3, h1, h2, x4, x5, x6, y, x8⟩
theorem WL.shut_span_Reader {P : Program} {N : Nat} {w0 : World} {ops : Array Oper} {Q : Exit → Act → World → Prop} {l : List Oper} {e : Env} {I : Mem} {G : List Asn} {g : Nat} (s : span_Reader) {v0 : Value} (h0 : IV I v0 s.b_) (k : WL P N w0 ops Q l e I (Ob_span_Reader g s :: G)) : WL P N w0 ops Q l e I (bl g #[v0, .int .i64 s.at_, .bool s.bad_] 94 :: G) := WL.conv (H := Ob_span_Reader g s :: G) (fun w hw => SatW.conv (B := Ob_span_Reader g s) (fun h q => ⟨_, q, h0⟩) hw) k
theorem WC.open_span_Reader {P : Program} {N : Nat} {w0 : World} {Q : Exit → Act → World → Prop} {c : Code} {e : Env} {I : Mem} {G : List Asn} {g : Nat} {s : span_Reader} (k : ∀ a0 c0, IV I (.slice a0 s.b_.length c0) s.b_ → WC P N w0 c Q e I (bl g #[(.slice a0 s.b_.length c0), .int .i64 s.at_, .bool s.bad_] 94 :: G)) : WC P N w0 c Q e I (Ob_span_Reader g s :: G) := fun a w ha hx hw => by
  obtain ⟨m, x1, x2, x3, h1, h2, x4, x5, x6, x7, x8⟩ := hw
  obtain ⟨v0, y, f0⟩ := x7
  obtain ⟨a0, c0, rfl⟩ := f0.hd
  exact k a0 c0 f0 a w ha hx ⟨m, x1, x2, x3, h1, h2, x4, x5, x6, y, x8⟩
theorem WC.shut_span_Reader {P : Program} {N : Nat} {w0 : World} {Q : Exit → Act → World → Prop} {c : Code} {e : Env} {I : Mem} {G : List Asn} {g : Nat} (s : span_Reader) {v0 : Value} (h0 : IV I v0 s.b_) (k : WC P N w0 c Q e I (Ob_span_Reader g s :: G)) : WC P N w0 c Q e I (bl g #[v0, .int .i64 s.at_, .bool s.bad_] 94 :: G) := WC.conv (H := Ob_span_Reader g s :: G) (fun w hw => SatW.conv (B := Ob_span_Reader g s) (fun h q => ⟨_, q, h0⟩) hw) k
theorem WX.open_span_Reader {N : Nat} {w0 : World} {Q : Exit → Act → World → Prop} {x : Exit} {e : Env} {I : Mem} {G : List Asn} {g : Nat} {s : span_Reader} (k : ∀ a0 c0, IV I (.slice a0 s.b_.length c0) s.b_ → WX N w0 x Q e I (bl g #[(.slice a0 s.b_.length c0), .int .i64 s.at_, .bool s.bad_] 94 :: G)) : WX N w0 x Q e I (Ob_span_Reader g s :: G) := fun a w ha hx hw => by
  obtain ⟨m, x1, x2, x3, h1, h2, x4, x5, x6, x7, x8⟩ := hw
  obtain ⟨v0, y, f0⟩ := x7
  obtain ⟨a0, c0, rfl⟩ := f0.hd
  exact k a0 c0 f0 a w ha hx ⟨m, x1, x2, x3, h1, h2, x4, x5, x6, y, x8⟩
theorem WX.shut_span_Reader {N : Nat} {w0 : World} {Q : Exit → Act → World → Prop} {x : Exit} {e : Env} {I : Mem} {G : List Asn} {g : Nat} (s : span_Reader) {v0 : Value} (h0 : IV I v0 s.b_) (k : WX N w0 x Q e I (Ob_span_Reader g s :: G)) : WX N w0 x Q e I (bl g #[v0, .int .i64 s.at_, .bool s.bad_] 94 :: G) := WX.conv (H := Ob_span_Reader g s :: G) (fun w hw => SatW.conv (B := Ob_span_Reader g s) (fun h q => ⟨_, q, h0⟩) hw) k
instance : GoT segment_Found where
  sz := 4
  agg := true
  rep I cs x := ∃ v0 : Value, cs = [.int .i64 x.Number, v0, .int .i64 x.Whole, .bool x.Sealed] ∧ IV I v0 x.Records
  pos := by decide
  one1 h := by cases h
  len h := by obtain ⟨v0, rfl, h0⟩ := h; rfl
  up k h := by obtain ⟨v0, rfl, h0⟩ := h; exact ⟨v0, rfl, h0.up k⟩
  one h := by
    obtain ⟨v0, rfl, h0⟩ := h
    intro v hv
    simp only [List.mem_cons, List.not_mem_nil, or_false] at hv
    rcases hv with rfl | rfl | rfl | rfl <;> first | rfl | exact h0.one
theorem Rv.of_segment_Found {I : Mem} {v : Value} {x : segment_Found} (h : Rv I v x) : ∃ a0 c0, v = .agg #[.int .i64 x.Number, (.slice a0 x.Records.length c0), .int .i64 x.Whole, .bool x.Sealed] ∧ IV I (.slice a0 x.Records.length c0) x.Records := by
  obtain ⟨cs, ⟨v0, rfl, h0⟩, rfl⟩ := h
  obtain ⟨a0, c0, rfl⟩ := h0.hd
  exact ⟨a0, c0, rfl, h0⟩
theorem Rv.mk_segment_Found {I : Mem} (x : segment_Found) {v0 : Value} (h0 : IV I v0 x.Records) : Rv I (.agg #[.int .i64 x.Number, v0, .int .i64 x.Whole, .bool x.Sealed]) x := ⟨_, ⟨_, rfl, h0⟩, rfl⟩
instance : GoT Anon64 where
  sz := 10
  agg := true
  rep I cs x := ∃ v0 v1 : Value, cs = [.int .i64 x.p_.Kind, .int .i64 x.p_.Path, .int .i64 x.p_.Number, .int .i64 x.p_.Of, .int .i64 x.p_.From, v0, .bool x.p_.Fin, .int .i64 x.p_.Seen, .int .i64 x.p_.Limit, v1] ∧ IV I v0 x.p_.Data ∧ IV I v1 x.b_
  pos := by decide
  one1 h := by cases h
  len h := by obtain ⟨v0, v1, rfl, h0, h1⟩ := h; rfl
  up k h := by obtain ⟨v0, v1, rfl, h0, h1⟩ := h; exact ⟨v0, v1, rfl, h0.up k, h1.up k⟩
  one h := by
    obtain ⟨v0, v1, rfl, h0, h1⟩ := h
    intro v hv
    simp only [List.mem_cons, List.not_mem_nil, or_false] at hv
    rcases hv with rfl | rfl | rfl | rfl | rfl | rfl | rfl | rfl | rfl | rfl <;> first | rfl | exact h0.one | exact h1.one
theorem Rv.of_Anon64 {I : Mem} {v : Value} {x : Anon64} (h : Rv I v x) : ∃ a0 c0 a1 c1, v = .agg #[.int .i64 x.p_.Kind, .int .i64 x.p_.Path, .int .i64 x.p_.Number, .int .i64 x.p_.Of, .int .i64 x.p_.From, (.slice a0 x.p_.Data.length c0), .bool x.p_.Fin, .int .i64 x.p_.Seen, .int .i64 x.p_.Limit, (.slice a1 x.b_.length c1)] ∧ IV I (.slice a0 x.p_.Data.length c0) x.p_.Data ∧ IV I (.slice a1 x.b_.length c1) x.b_ := by
  obtain ⟨cs, ⟨v0, v1, rfl, h0, h1⟩, rfl⟩ := h
  obtain ⟨a0, c0, rfl⟩ := h0.hd
  obtain ⟨a1, c1, rfl⟩ := h1.hd
  exact ⟨a0, c0, a1, c1, rfl, h0, h1⟩
theorem Rv.mk_Anon64 {I : Mem} (x : Anon64) {v0 : Value} (h0 : IV I v0 x.p_.Data) {v1 : Value} (h1 : IV I v1 x.b_) : Rv I (.agg #[.int .i64 x.p_.Kind, .int .i64 x.p_.Path, .int .i64 x.p_.Number, .int .i64 x.p_.Of, .int .i64 x.p_.From, v0, .bool x.p_.Fin, .int .i64 x.p_.Seen, .int .i64 x.p_.Limit, v1]) x := ⟨_, ⟨_, _, rfl, h0, h1⟩, rfl⟩
instance : GoT haulierref01_Reader where
  sz := 3
  agg := true
  rep I cs x := ∃ v0 : Value, cs = [v0, .int .i64 x.At, .bool x.Bad] ∧ IV I v0 x.B
  pos := by decide
  one1 h := by cases h
  len h := by obtain ⟨v0, rfl, h0⟩ := h; rfl
  up k h := by obtain ⟨v0, rfl, h0⟩ := h; exact ⟨v0, rfl, h0.up k⟩
  one h := by
    obtain ⟨v0, rfl, h0⟩ := h
    intro v hv
    simp only [List.mem_cons, List.not_mem_nil, or_false] at hv
    rcases hv with rfl | rfl | rfl <;> first | rfl | exact h0.one
theorem Rv.of_haulierref01_Reader {I : Mem} {v : Value} {x : haulierref01_Reader} (h : Rv I v x) : ∃ a0 c0, v = .agg #[(.slice a0 x.B.length c0), .int .i64 x.At, .bool x.Bad] ∧ IV I (.slice a0 x.B.length c0) x.B := by
  obtain ⟨cs, ⟨v0, rfl, h0⟩, rfl⟩ := h
  obtain ⟨a0, c0, rfl⟩ := h0.hd
  exact ⟨a0, c0, rfl, h0⟩
theorem Rv.mk_haulierref01_Reader {I : Mem} (x : haulierref01_Reader) {v0 : Value} (h0 : IV I v0 x.B) : Rv I (.agg #[v0, .int .i64 x.At, .bool x.Bad]) x := ⟨_, ⟨_, rfl, h0⟩, rfl⟩
def Ob_haulierref01_Reader (g : Nat) (s : haulierref01_Reader) : Asn := ⟨fun I h => ∃ v0 : Value, h g = some (.cells #[v0, .int .i64 s.At, .bool s.Bad] 78 (0, 0)) ∧ IV I v0 s.B, fun q h => by obtain ⟨v0, k, f0⟩ := h; exact ⟨v0, k, f0.up q⟩⟩
theorem WL.open_haulierref01_Reader {P : Program} {N : Nat} {w0 : World} {ops : Array Oper} {Q : Exit → Act → World → Prop} {l : List Oper} {e : Env} {I : Mem} {G : List Asn} {g : Nat} {s : haulierref01_Reader} (k : ∀ a0 c0, IV I (.slice a0 s.B.length c0) s.B → WL P N w0 ops Q l e I (bl g #[(.slice a0 s.B.length c0), .int .i64 s.At, .bool s.Bad] 78 :: G)) : WL P N w0 ops Q l e I (Ob_haulierref01_Reader g s :: G) := fun a w ha hx hw => by
  obtain ⟨m, x1, x2, x3, h1, h2, x4, x5, x6, x7, x8⟩ := hw
  obtain ⟨v0, y, f0⟩ := x7
  obtain ⟨a0, c0, rfl⟩ := f0.hd
  exact k a0 c0 f0 a w ha hx ⟨m, x1, x2, x3, h1, h2, x4, x5, x6, y, x8⟩
theorem WL.shut_haulierref01_Reader {P : Program} {N : Nat} {w0 : World} {ops : Array Oper} {Q : Exit → Act → World → Prop} {l : List Oper} {e : Env} {I : Mem} {G : List Asn} {g : Nat} (s : haulierref01_Reader) {v0 : Value} (h0 : IV I v0 s.B) (k : WL P N w0 ops Q l e I (Ob_haulierref01_Reader g s :: G)) : WL P N w0 ops Q l e I (bl g #[v0, .int .i64 s.At, .bool s.Bad] 78 :: G) := WL.conv (H := Ob_haulierref01_Reader g s :: G) (fun w hw => SatW.conv (B := Ob_haulierref01_Reader g s) (fun h q => ⟨_, q, h0⟩) hw) k
theorem WC.open_haulierref01_Reader {P : Program} {N : Nat} {w0 : World} {Q : Exit → Act → World → Prop} {c : Code} {e : Env} {I : Mem} {G : List Asn} {g : Nat} {s : haulierref01_Reader} (k : ∀ a0 c0, IV I (.slice a0 s.B.length c0) s.B → WC P N w0 c Q e I (bl g #[(.slice a0 s.B.length c0), .int .i64 s.At, .bool s.Bad] 78 :: G)) : WC P N w0 c Q e I (Ob_haulierref01_Reader g s :: G) := fun a w ha hx hw => by
  obtain ⟨m, x1, x2, x3, h1, h2, x4, x5, x6, x7, x8⟩ := hw
  obtain ⟨v0, y, f0⟩ := x7
  obtain ⟨a0, c0, rfl⟩ := f0.hd
  exact k a0 c0 f0 a w ha hx ⟨m, x1, x2, x3, h1, h2, x4, x5, x6, y, x8⟩
theorem WC.shut_haulierref01_Reader {P : Program} {N : Nat} {w0 : World} {Q : Exit → Act → World → Prop} {c : Code} {e : Env} {I : Mem} {G : List Asn} {g : Nat} (s : haulierref01_Reader) {v0 : Value} (h0 : IV I v0 s.B) (k : WC P N w0 c Q e I (Ob_haulierref01_Reader g s :: G)) : WC P N w0 c Q e I (bl g #[v0, .int .i64 s.At, .bool s.Bad] 78 :: G) := WC.conv (H := Ob_haulierref01_Reader g s :: G) (fun w hw => SatW.conv (B := Ob_haulierref01_Reader g s) (fun h q => ⟨_, q, h0⟩) hw) k
theorem WX.open_haulierref01_Reader {N : Nat} {w0 : World} {Q : Exit → Act → World → Prop} {x : Exit} {e : Env} {I : Mem} {G : List Asn} {g : Nat} {s : haulierref01_Reader} (k : ∀ a0 c0, IV I (.slice a0 s.B.length c0) s.B → WX N w0 x Q e I (bl g #[(.slice a0 s.B.length c0), .int .i64 s.At, .bool s.Bad] 78 :: G)) : WX N w0 x Q e I (Ob_haulierref01_Reader g s :: G) := fun a w ha hx hw => by
  obtain ⟨m, x1, x2, x3, h1, h2, x4, x5, x6, x7, x8⟩ := hw
  obtain ⟨v0, y, f0⟩ := x7
  obtain ⟨a0, c0, rfl⟩ := f0.hd
  exact k a0 c0 f0 a w ha hx ⟨m, x1, x2, x3, h1, h2, x4, x5, x6, y, x8⟩
theorem WX.shut_haulierref01_Reader {N : Nat} {w0 : World} {Q : Exit → Act → World → Prop} {x : Exit} {e : Env} {I : Mem} {G : List Asn} {g : Nat} (s : haulierref01_Reader) {v0 : Value} (h0 : IV I v0 s.B) (k : WX N w0 x Q e I (Ob_haulierref01_Reader g s :: G)) : WX N w0 x Q e I (bl g #[v0, .int .i64 s.At, .bool s.Bad] 78 :: G) := WX.conv (H := Ob_haulierref01_Reader g s :: G) (fun w hw => SatW.conv (B := Ob_haulierref01_Reader g s) (fun h q => ⟨_, q, h0⟩) hw) k
theorem et22 : ET Try.prog 22 5 (.int .u8 0) 1 UInt8 := ⟨Try.underlying22, by kernel_rfl, rfl, Try.isAgg5⟩
theorem cl43 : Cl Try.prog 43 := Cl.mk Try.func43 rfl (by kernel_rfl)
theorem na5 : NA Try.prog 5 := Try.isAgg5
theorem mo : Try.prog.follows .mixedOrders = true := by kernel_rfl
theorem et32 : ET Try.prog 32 31 (.int .u32 0) 4 UInt32 := ⟨Try.underlying32, by kernel_rfl, rfl, Try.isAgg31⟩
theorem cl15 : Cl Try.prog 15 := Cl.mk Try.func15 rfl (by kernel_rfl)
theorem cl16 : Cl Try.prog 16 := Cl.mk Try.func16 rfl (by kernel_rfl)
theorem cl17 : Cl Try.prog 17 := Cl.mk Try.func17 rfl (by kernel_rfl)
theorem cl21 : Cl Try.prog 21 := Cl.mk Try.func21 rfl (by kernel_rfl)
theorem cl19 : Cl Try.prog 19 := Cl.mk Try.func19 rfl (by kernel_rfl)
theorem cl23 : Cl Try.prog 23 := Cl.mk Try.func23 rfl (by kernel_rfl)
theorem cl18 : Cl Try.prog 18 := Cl.mk Try.func18 rfl (by kernel_rfl)
theorem fl41_0 : Fld Try.prog 41 0 0 := Fld.mk (n := 0) Try.underlying41 rfl rfl (by kernel_rfl)
theorem na3 : NA Try.prog 3 := Try.isAgg3
theorem fl41_3 : Fld Try.prog 41 3 3 := Fld.mk (n := 0) Try.underlying41 rfl rfl (by kernel_rfl)
theorem cl63 : Cl Try.prog 63 := Cl.mk Try.func63 rfl (by kernel_rfl)
theorem fl41_4 : Fld Try.prog 41 4 4 := Fld.mk (n := 0) Try.underlying41 rfl rfl (by kernel_rfl)
theorem fl41_5 : Fld Try.prog 41 5 5 := Fld.mk (n := 0) Try.underlying41 rfl rfl (by kernel_rfl)
theorem na22 : NA Try.prog 22 := Try.isAgg22
theorem fl41_7 : Fld Try.prog 41 7 7 := Fld.mk (n := 0) Try.underlying41 rfl rfl (by kernel_rfl)
theorem fl41_8 : Fld Try.prog 41 8 8 := Fld.mk (n := 0) Try.underlying41 rfl rfl (by kernel_rfl)
theorem fl41_1 : Fld Try.prog 41 1 1 := Fld.mk (n := 0) Try.underlying41 rfl rfl (by kernel_rfl)
theorem fl41_2 : Fld Try.prog 41 2 2 := Fld.mk (n := 0) Try.underlying41 rfl rfl (by kernel_rfl)
theorem bt41 : BT Try.prog 41 #[.int .i64 0, .int .i64 0, .int .i64 0, .int .i64 0, .int .i64 0, .slice none 0 0, .bool false, .int .i64 0, .int .i64 0] #[(0, 1), (1, 1), (2, 1), (3, 1), (4, 1), (5, 1), (6, 1), (7, 1), (8, 1)] := fun parts => by
  have h : Try.prog.built 41 = fun parts => Instr.fill (fun i => (#[(0, 1), (1, 1), (2, 1), (3, 1), (4, 1), (5, 1), (6, 1), (7, 1), (8, 1)] : Array (Nat × Nat))[i]?) #[.int .i64 0, .int .i64 0, .int .i64 0, .int .i64 0, .int .i64 0, .slice none 0 0, .bool false, .int .i64 0, .int .i64 0] parts := by kernel_rfl
  rw [h]
theorem sz41 : SZ Try.prog 41 9 := Try.sizeOf41
theorem sz3 : SZ Try.prog 3 1 := Try.sizeOf3
theorem ya41 : YA Try.prog 41 9 := fun w => ⟨Try.isAgg41 w, Try.sizeOf41 w⟩
theorem fl41_6 : Fld Try.prog 41 6 6 := Fld.mk (n := 0) Try.underlying41 rfl rfl (by kernel_rfl)
theorem na4 : NA Try.prog 4 := Try.isAgg4
theorem sz22 : SZ Try.prog 22 1 := Try.sizeOf22
theorem sz4 : SZ Try.prog 4 1 := Try.sizeOf4
theorem cl56 : Cl Try.prog 56 := Cl.mk Try.func56 rfl (by kernel_rfl)
theorem cl62 : Cl Try.prog 62 := Cl.mk Try.func62 rfl (by kernel_rfl)
theorem cl64 : Cl Try.prog 64 := Cl.mk Try.func64 rfl (by kernel_rfl)
theorem cl37 : Cl Try.prog 37 := Cl.mk Try.func37 rfl (by kernel_rfl)
theorem cl80 : Cl Try.prog 80 := Cl.mk Try.func80 rfl (by kernel_rfl)
theorem cl81 : Cl Try.prog 81 := Cl.mk Try.func81 rfl (by kernel_rfl)
theorem sz5 : SZ Try.prog 5 1 := Try.sizeOf5
theorem et37 : ET Try.prog 37 22 (.slice none 0 0) 24 (List UInt8) := ⟨Try.underlying37, by kernel_rfl, rfl, Try.isAgg22⟩
theorem cl79 : Cl Try.prog 79 := Cl.mk Try.func79 rfl (by kernel_rfl)
theorem cl59 : Cl Try.prog 59 := Cl.mk Try.func59 rfl (by kernel_rfl)
theorem cl54 : Cl Try.prog 54 := Cl.mk Try.func54 rfl (by kernel_rfl)
theorem cl32 : Cl Try.prog 32 := Cl.mk Try.func32 rfl (by kernel_rfl)
theorem cl60 : Cl Try.prog 60 := Cl.mk Try.func60 rfl (by kernel_rfl)
theorem cl61 : Cl Try.prog 61 := Cl.mk Try.func61 rfl (by kernel_rfl)
theorem cl31 : Cl Try.prog 31 := Cl.mk Try.func31 rfl (by kernel_rfl)
theorem cl30 : Cl Try.prog 30 := Cl.mk Try.func30 rfl (by kernel_rfl)
theorem et42 : ET Try.prog 42 41 (.agg #[.int .i64 0, .int .i64 0, .int .i64 0, .int .i64 0, .int .i64 0, .slice none 0 0, .bool false, .int .i64 0, .int .i64 0]) 88 api_Packet := ⟨Try.underlying42, by kernel_rfl, rfl, Try.isAgg41⟩
theorem cl33 : Cl Try.prog 33 := Cl.mk Try.func33 rfl (by kernel_rfl)
theorem cl65 : Cl Try.prog 65 := Cl.mk Try.func65 rfl (by kernel_rfl)
theorem cl82 : Cl Try.prog 82 := Cl.mk Try.func82 rfl (by kernel_rfl)
theorem cl72 : Cl Try.prog 72 := Cl.mk Try.func72 rfl (by kernel_rfl)
theorem et59 : ET Try.prog 59 3 (.int .i64 0) 8 Int := ⟨Try.underlying59, by kernel_rfl, rfl, Try.isAgg3⟩
theorem cl67 : Cl Try.prog 67 := Cl.mk Try.func67 rfl (by kernel_rfl)
theorem cl66 : Cl Try.prog 66 := Cl.mk Try.func66 rfl (by kernel_rfl)
theorem cl68 : Cl Try.prog 68 := Cl.mk Try.func68 rfl (by kernel_rfl)
theorem cl36 : Cl Try.prog 36 := Cl.mk Try.func36 rfl (by kernel_rfl)
theorem cl26 : Cl Try.prog 26 := Cl.mk Try.func26 rfl (by kernel_rfl)
theorem cl34 : Cl Try.prog 34 := Cl.mk Try.func34 rfl (by kernel_rfl)
theorem cl35 : Cl Try.prog 35 := Cl.mk Try.func35 rfl (by kernel_rfl)
theorem cl38 : Cl Try.prog 38 := Cl.mk Try.func38 rfl (by kernel_rfl)
theorem cl69 : Cl Try.prog 69 := Cl.mk Try.func69 rfl (by kernel_rfl)
theorem cl57 : Cl Try.prog 57 := Cl.mk Try.func57 rfl (by kernel_rfl)
theorem bt94 : BT Try.prog 94 #[.slice none 0 0, .int .i64 0, .bool false] #[(0, 1), (1, 1), (2, 1)] := fun parts => by
  have h : Try.prog.built 94 = fun parts => Instr.fill (fun i => (#[(0, 1), (1, 1), (2, 1)] : Array (Nat × Nat))[i]?) #[.slice none 0 0, .int .i64 0, .bool false] parts := by kernel_rfl
  rw [h]
theorem fl94_0 : Fld Try.prog 94 0 0 := Fld.mk (n := 0) Try.underlying94 rfl rfl (by kernel_rfl)
theorem fl94_1 : Fld Try.prog 94 1 1 := Fld.mk (n := 0) Try.underlying94 rfl rfl (by kernel_rfl)
theorem cl83 : Cl Try.prog 83 := Cl.mk Try.func83 rfl (by kernel_rfl)
theorem fl94_2 : Fld Try.prog 94 2 2 := Fld.mk (n := 0) Try.underlying94 rfl rfl (by kernel_rfl)
theorem cl48 : Cl Try.prog 48 := Cl.mk Try.func48 rfl (by kernel_rfl)
theorem cl75 : Cl Try.prog 75 := Cl.mk Try.func75 rfl (by kernel_rfl)
theorem cl49 : Cl Try.prog 49 := Cl.mk Try.func49 rfl (by kernel_rfl)
theorem cl46 : Cl Try.prog 46 := Cl.mk Try.func46 rfl (by kernel_rfl)
theorem cl70 : Cl Try.prog 70 := Cl.mk Try.func70 rfl (by kernel_rfl)
theorem cl71 : Cl Try.prog 71 := Cl.mk Try.func71 rfl (by kernel_rfl)
theorem bt56 : BT Try.prog 56 #[.int .i64 0, .slice none 0 0, .int .i64 0, .bool false] #[(0, 1), (1, 1), (2, 1), (3, 1)] := fun parts => by
  have h : Try.prog.built 56 = fun parts => Instr.fill (fun i => (#[(0, 1), (1, 1), (2, 1), (3, 1)] : Array (Nat × Nat))[i]?) #[.int .i64 0, .slice none 0 0, .int .i64 0, .bool false] parts := by kernel_rfl
  rw [h]
theorem sz56 : SZ Try.prog 56 4 := Try.sizeOf56
theorem ya56 : YA Try.prog 56 4 := fun w => ⟨Try.isAgg56 w, Try.sizeOf56 w⟩
theorem cl52 : Cl Try.prog 52 := Cl.mk Try.func52 rfl (by kernel_rfl)
theorem fl56_0 : Fld Try.prog 56 0 0 := Fld.mk (n := 0) Try.underlying56 rfl rfl (by kernel_rfl)
theorem fl56_2 : Fld Try.prog 56 2 2 := Fld.mk (n := 0) Try.underlying56 rfl rfl (by kernel_rfl)
theorem fl56_1 : Fld Try.prog 56 1 1 := Fld.mk (n := 0) Try.underlying56 rfl rfl (by kernel_rfl)
theorem na37 : NA Try.prog 37 := Try.isAgg37
theorem sz37 : SZ Try.prog 37 1 := Try.sizeOf37
theorem fl56_3 : Fld Try.prog 56 3 3 := Fld.mk (n := 0) Try.underlying56 rfl rfl (by kernel_rfl)
theorem cl44 : Cl Try.prog 44 := Cl.mk Try.func44 rfl (by kernel_rfl)
theorem cl39 : Cl Try.prog 39 := Cl.mk Try.func39 rfl (by kernel_rfl)
theorem cl41 : Cl Try.prog 41 := Cl.mk Try.func41 rfl (by kernel_rfl)
theorem cl40 : Cl Try.prog 40 := Cl.mk Try.func40 rfl (by kernel_rfl)
theorem cl42 : Cl Try.prog 42 := Cl.mk Try.func42 rfl (by kernel_rfl)
theorem fd56_3 : Fd Try.prog 56 3 3 1 false := Fd.mk1 Try.underlying56 rfl rfl rfl na4
theorem cl45 : Cl Try.prog 45 := Cl.mk Try.func45 rfl (by kernel_rfl)
theorem cl73 : Cl Try.prog 73 := Cl.mk Try.func73 rfl (by kernel_rfl)
theorem cl74 : Cl Try.prog 74 := Cl.mk Try.func74 rfl (by kernel_rfl)
theorem bt64 : BT Try.prog 64 #[.int .i64 0, .int .i64 0, .int .i64 0, .int .i64 0, .int .i64 0, .slice none 0 0, .bool false, .int .i64 0, .int .i64 0, .slice none 0 0] #[(0, 9), (9, 1)] := fun parts => by
  have h : Try.prog.built 64 = fun parts => Instr.fill (fun i => (#[(0, 9), (9, 1)] : Array (Nat × Nat))[i]?) #[.int .i64 0, .int .i64 0, .int .i64 0, .int .i64 0, .int .i64 0, .slice none 0 0, .bool false, .int .i64 0, .int .i64 0, .slice none 0 0] parts := by kernel_rfl
  rw [h]
theorem et65 : ET Try.prog 65 64 (.agg #[.int .i64 0, .int .i64 0, .int .i64 0, .int .i64 0, .int .i64 0, .slice none 0 0, .bool false, .int .i64 0, .int .i64 0, .slice none 0 0]) 112 Anon64 := ⟨Try.underlying65, by kernel_rfl, rfl, Try.isAgg64⟩
theorem ya64 : YA Try.prog 64 10 := fun w => ⟨Try.isAgg64 w, Try.sizeOf64 w⟩
theorem sz64 : SZ Try.prog 64 10 := Try.sizeOf64
theorem fl64_0 : Fld Try.prog 64 0 0 := Fld.mk (n := 8) Try.underlying64 rfl rfl (by kernel_rfl)
theorem fl64_1 : Fld Try.prog 64 1 9 := Fld.mk (n := 0) Try.underlying64 rfl rfl (by kernel_rfl)
theorem pt66 : Try.prog.underlying 66 = some (.pointer (Try.prog.pointee 66)) := by kernel_rfl
theorem cl47 : Cl Try.prog 47 := Cl.mk Try.func47 rfl (by kernel_rfl)
theorem cl50 : Cl Try.prog 50 := Cl.mk Try.func50 rfl (by kernel_rfl)
theorem cl27 : Cl Try.prog 27 := Cl.mk Try.func27 rfl (by kernel_rfl)
theorem fl78_2 : Fld Try.prog 78 2 2 := Fld.mk (n := 0) Try.underlying78 rfl rfl (by kernel_rfl)
theorem fl78_1 : Fld Try.prog 78 1 1 := Fld.mk (n := 0) Try.underlying78 rfl rfl (by kernel_rfl)
theorem fl78_0 : Fld Try.prog 78 0 0 := Fld.mk (n := 0) Try.underlying78 rfl rfl (by kernel_rfl)
theorem cl76 : Cl Try.prog 76 := Cl.mk Try.func76 rfl (by kernel_rfl)
theorem cl77 : Cl Try.prog 77 := Cl.mk Try.func77 rfl (by kernel_rfl)
theorem cl78 : Cl Try.prog 78 := Cl.mk Try.func78 rfl (by kernel_rfl)
theorem cl29 : Cl Try.prog 29 := Cl.mk Try.func29 rfl (by kernel_rfl)
theorem bt78 : BT Try.prog 78 #[.slice none 0 0, .int .i64 0, .bool false] #[(0, 1), (1, 1), (2, 1)] := fun parts => by
  have h : Try.prog.built 78 = fun parts => Instr.fill (fun i => (#[(0, 1), (1, 1), (2, 1)] : Array (Nat × Nat))[i]?) #[.slice none 0 0, .int .i64 0, .bool false] parts := by kernel_rfl
  rw [h]
theorem cl51 : Cl Try.prog 51 := Cl.mk Try.func51 rfl (by kernel_rfl)
theorem cl53 : Cl Try.prog 53 := Cl.mk Try.func53 rfl (by kernel_rfl)
theorem cl28 : Cl Try.prog 28 := Cl.mk Try.func28 rfl (by kernel_rfl)
end Go.Proofs.Ytgobccnphhljcaa
