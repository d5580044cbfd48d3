/- Printed by a program of this session: walks of Go functions. -/
import Derived.Test.YtgobccnphhljcaaKf
import Derived.Test.YtgobccnphhljcaaDf
import Derived.Test.YtgobccnphhljcaaK1
namespace Go.Proofs.Ytgobccnphhljcaa
set_option linter.unusedVariables false
set_option maxRecDepth 10000
set_option maxHeartbeats 2000000
theorem W69 {I : Mem} {G : List Asn} {p0 : UInt8} {p1 : List (List UInt8)} {r : (List UInt8)} (h : segment_part p0 p1 = some r) {u1 : Value} (hp1 : IV I u1 p1) :
    CallsS Try.prog 69 #[.int .u8 (p0.toNat : Int), u1] I (G) (fun v J G' => ∃ ra0 rc0, v = .slice ra0 r.length rc0 ∧ OV 5 (.slice ra0 r.length rc0) r :: G = G') := by
  refine CallsS.enter Try.func69 rfl Try.ntmps69 rfl (fun w0 => ?_)
  have hI := Mem.le.refl I
  obtain ⟨a1, c1, rfl⟩ := hp1.hd
  unfold segment_part at h
  refine WC.seq ?_
  refine WC.region ?_
  refine asg rfl rfl ?_
  refine WL.next ?_
  refine WC.seq ?_
  refine WC.region ?_
  refine mv rfl rfl ?_
  refine bs (os := [.tmp 5]) (xs := ([p0] : List UInt8)) et22 rfl rfl ⟨(Rv.of_u8 _ p0), trivial⟩ rfl rfl rfl rfl (fun a1 c2 => ?_)
  refine mv rfl rfl ?_
  obtain ⟨x4, e5, h⟩ := bnd h
  refine call cl54 rfl rfl (W54 e5 hp1) (fun _ J6 _ hJ7 q8 => ?_)
  have hI := hI.trans hJ7
  replace hp1 := hp1.up hJ7
  obtain ⟨a9, c10, rfl, rfl⟩ := q8
  refine WL.front 1 ?_
  obtain ⟨k12, h⟩ := chk h
  refine ap et22 rfl rfl ((OV.rd 1 rfl)) k12 rfl (fun a13 c14 => ?_)
  refine WL.freeze (fun J15 hJ16 h17 => ?_)
  have hI := hI.trans hJ16
  replace hp1 := hp1.up hJ16
  obtain ⟨x18, e19, h⟩ := bnd h
  refine call cl16 rfl rfl (W16 e19 h17) (fun _ J20 _ hJ21 q22 => ?_)
  have hI := hI.trans hJ21
  replace hp1 := hp1.up hJ21; replace h17 := h17.up hJ21
  obtain ⟨a23, c24, rfl, rfl⟩ := q22
  refine WL.freeze (fun J26 hJ27 h28 => ?_)
  have hI := hI.trans hJ27
  replace hp1 := hp1.up hJ27; replace h17 := h17.up hJ27
  obtain ⟨x29, e30, h⟩ := bnd h
  refine call cl60 rfl rfl (W60 e30 h28) (fun _ J31 _ hJ32 q33 => ?_)
  have hI := hI.trans hJ32
  replace hp1 := hp1.up hJ32; replace h17 := h17.up hJ32; replace h28 := h28.up hJ32
  obtain ⟨a34, c35, rfl, rfl⟩ := q33
  refine asg rfl rfl ?_
  refine WL.del 1 ?_
  refine WL.next ?_
  refine WC.ret ?_
  cases h
  exact ret1 Try.results69 rfl hI ⟨_, _, rfl, rfl⟩
theorem W39 {I : Mem} {G : List Asn} {p0 : Int} {r : (List UInt8)} (h : segment_Head p0 = some r) :
    CallsS Try.prog 39 #[.int .i64 p0] I (G) (fun v J G' => ∃ ra0 rc0, v = .slice ra0 r.length rc0 ∧ OV 5 (.slice ra0 r.length rc0) r :: G = G') := by
  refine CallsS.enter Try.func39 rfl Try.ntmps39 rfl (fun w0 => ?_)
  have hI := Mem.le.refl I
  unfold segment_Head at h
  refine WC.seq ?_
  refine WC.region ?_
  refine asg rfl rfl ?_
  refine WL.next ?_
  refine WC.seq ?_
  refine WC.seq ?_
  refine WC.region ?_
  refine mv rfl rfl ?_
  refine lt rfl rfl rfl ?_
  refine mv rfl rfl ?_
  rcases spl h with ⟨k1, h⟩ | ⟨k1, h⟩
  · skip
    refine WL.rb 5 rfl (bT k1) ?_
    refine WL.no rfl rfl rfl rfl ?_
    refine WL.no rfl rfl rfl rfl ?_
    refine pkT rfl rfl rfl ?_
    refine WL.next ?_
    refine WC.cond rfl (fun _ => ?_) (fun k => by cases k)
    refine WC.seq ?_
    refine WC.region ?_
    refine asg rfl rfl ?_
    refine WL.next ?_
    refine WC.ret ?_
    refine WX.then_ret ?_
    refine WX.own_nil UInt8 5 ?_
    cases h
    exact ret1 Try.results39 rfl hI ⟨_, _, rfl, rfl⟩
  refine WL.rb 5 rfl (bF k1) ?_
  refine WL.on rfl rfl ?_
  refine mv rfl rfl ?_
  refine WL.on rfl rfl ?_
  refine gt rfl rfl rfl ?_
  refine pkF rfl rfl rfl ?_
  refine WL.next ?_
  refine WC.ite rfl h (fun k3 h => ?_) (fun k3 h => ?_)
  · skip
    refine WC.seq ?_
    refine WC.region ?_
    refine asg rfl rfl ?_
    refine WL.next ?_
    refine WC.ret ?_
    refine WX.then_ret ?_
    refine WX.own_nil UInt8 5 ?_
    cases h
    exact ret1 Try.results39 rfl hI ⟨_, _, rfl, rfl⟩
  refine WC.skip ?_
  refine WX.then_ ?_
  refine WC.seq ?_
  refine WC.region ?_
  refine mv rfl rfl ?_
  obtain ⟨x5, e6, h⟩ := bnd h
  refine call cl59 rfl rfl (W59 e6) (fun _ J7 _ hJ8 q9 => ?_)
  have hI := hI.trans hJ8
  obtain ⟨a10, c11, rfl, rfl⟩ := q9
  refine WL.freeze (fun J16 hJ17 h18 => ?_)
  have hI := hI.trans hJ17
  refine bs (os := [.tmp 10]) (xs := ([x5] : List (List UInt8))) et37 rfl rfl ⟨(h18).rv, trivial⟩ rfl rfl rfl rfl (fun a13 c14 => ?_)
  refine WL.freeze (fun J19 hJ20 h21 => ?_)
  have hI := hI.trans hJ20
  replace h18 := h18.up hJ20
  obtain ⟨x22, e23, h⟩ := bnd h
  refine call cl69 rfl rfl (W69 e23 h21) (fun _ J24 _ hJ25 q26 => ?_)
  have hI := hI.trans hJ25
  replace h18 := h18.up hJ25; replace h21 := h21.up hJ25
  obtain ⟨a27, c28, rfl, rfl⟩ := q26
  refine asg rfl rfl ?_
  refine WL.next ?_
  refine WC.ret ?_
  cases h
  exact ret1 Try.results39 rfl hI ⟨_, _, rfl, rfl⟩
theorem W40 {I : Mem} {G : List Asn} {p0 : Int} {p1 : Int} {r : (List UInt8)} (h : segment_Foot p0 p1 = some r) :
    CallsS Try.prog 40 #[.int .i64 p0, .int .i64 p1] I (G) (fun v J G' => ∃ ra0 rc0, v = .slice ra0 r.length rc0 ∧ OV 5 (.slice ra0 r.length rc0) r :: G = G') := by
  refine CallsS.enter Try.func40 rfl Try.ntmps40 rfl (fun w0 => ?_)
  have hI := Mem.le.refl I
  unfold segment_Foot at h
  refine WC.seq ?_
  refine WC.region ?_
  refine asg rfl rfl ?_
  refine WL.next ?_
  refine WC.seq ?_
  refine WC.seq ?_
  refine WC.region ?_
  refine mv rfl rfl ?_
  refine lt rfl rfl rfl ?_
  refine mv rfl rfl ?_
  rcases spl h with ⟨k1, h⟩ | ⟨k1, h⟩
  · skip
    refine WL.rb 7 rfl (bT k1) ?_
    refine WL.no rfl rfl rfl rfl ?_
    refine WL.no rfl rfl rfl rfl ?_
    refine pkT rfl rfl rfl ?_
    refine mv rfl rfl ?_
    refine WL.no rfl rfl rfl rfl ?_
    refine WL.no rfl rfl rfl rfl ?_
    refine pkT rfl rfl rfl ?_
    refine mv rfl rfl ?_
    refine WL.no rfl rfl rfl rfl ?_
    refine WL.no rfl rfl rfl rfl ?_
    refine pkT rfl rfl rfl ?_
    refine WL.next ?_
    refine WC.cond rfl (fun _ => ?_) (fun k => by cases k)
    refine WC.seq ?_
    refine WC.region ?_
    refine asg rfl rfl ?_
    refine WL.next ?_
    refine WC.ret ?_
    refine WX.then_ret ?_
    refine WX.own_nil UInt8 5 ?_
    cases h
    exact ret1 Try.results40 rfl hI ⟨_, _, rfl, rfl⟩
  refine WL.rb 7 rfl (bF k1) ?_
  refine WL.on rfl rfl ?_
  refine mv rfl rfl ?_
  refine WL.on rfl rfl ?_
  refine gt rfl rfl rfl ?_
  refine pkF rfl rfl rfl ?_
  refine mv rfl rfl ?_
  rcases spl h with ⟨k3, h⟩ | ⟨k3, h⟩
  · skip
    refine WL.rb 11 rfl (bT k3) ?_
    refine WL.no rfl rfl rfl rfl ?_
    refine WL.no rfl rfl rfl rfl ?_
    refine pkT rfl rfl rfl ?_
    refine mv rfl rfl ?_
    refine WL.no rfl rfl rfl rfl ?_
    refine WL.no rfl rfl rfl rfl ?_
    refine pkT rfl rfl rfl ?_
    refine WL.next ?_
    refine WC.cond rfl (fun _ => ?_) (fun k => by cases k)
    refine WC.seq ?_
    refine WC.region ?_
    refine asg rfl rfl ?_
    refine WL.next ?_
    refine WC.ret ?_
    refine WX.then_ret ?_
    refine WX.own_nil UInt8 5 ?_
    cases h
    exact ret1 Try.results40 rfl hI ⟨_, _, rfl, rfl⟩
  refine WL.rb 11 rfl (bF k3) ?_
  refine WL.on rfl rfl ?_
  refine mv rfl rfl ?_
  refine WL.on rfl rfl ?_
  refine lt rfl rfl rfl ?_
  refine pkF rfl rfl rfl ?_
  refine mv rfl rfl ?_
  rcases spl h with ⟨k5, h⟩ | ⟨k5, h⟩
  · skip
    refine WL.rb 15 rfl (bT k5) ?_
    refine WL.no rfl rfl rfl rfl ?_
    refine WL.no rfl rfl rfl rfl ?_
    refine pkT rfl rfl rfl ?_
    refine WL.next ?_
    refine WC.cond rfl (fun _ => ?_) (fun k => by cases k)
    refine WC.seq ?_
    refine WC.region ?_
    refine asg rfl rfl ?_
    refine WL.next ?_
    refine WC.ret ?_
    refine WX.then_ret ?_
    refine WX.own_nil UInt8 5 ?_
    cases h
    exact ret1 Try.results40 rfl hI ⟨_, _, rfl, rfl⟩
  refine WL.rb 15 rfl (bF k5) ?_
  refine WL.on rfl rfl ?_
  refine mv rfl rfl ?_
  refine WL.on rfl rfl ?_
  refine gt rfl rfl rfl ?_
  refine pkF rfl rfl rfl ?_
  refine WL.next ?_
  refine WC.ite rfl h (fun k7 h => ?_) (fun k7 h => ?_)
  · skip
    refine WC.seq ?_
    refine WC.region ?_
    refine asg rfl rfl ?_
    refine WL.next ?_
    refine WC.ret ?_
    refine WX.then_ret ?_
    refine WX.own_nil UInt8 5 ?_
    cases h
    exact ret1 Try.results40 rfl hI ⟨_, _, rfl, rfl⟩
  refine WC.skip ?_
  refine WX.then_ ?_
  refine WC.seq ?_
  refine WC.region ?_
  refine mv rfl rfl ?_
  obtain ⟨x9, e10, h⟩ := bnd h
  refine call cl59 rfl rfl (W59 e10) (fun _ J11 _ hJ12 q13 => ?_)
  have hI := hI.trans hJ12
  obtain ⟨a14, c15, rfl, rfl⟩ := q13
  refine mv rfl rfl ?_
  obtain ⟨x17, e18, h⟩ := bnd h
  refine call cl59 rfl rfl (W59 e18) (fun _ J19 _ hJ20 q21 => ?_)
  have hI := hI.trans hJ20
  obtain ⟨a22, c23, rfl, rfl⟩ := q21
  refine WL.front 1 ?_
  refine WL.freeze (fun J28 hJ29 h30 => ?_)
  have hI := hI.trans hJ29
  refine WL.freeze (fun J31 hJ32 h33 => ?_)
  have hI := hI.trans hJ32
  replace h30 := h30.up hJ32
  refine bs (os := [.tmp 20, .tmp 22]) (xs := ([x9, x17] : List (List UInt8))) et37 rfl rfl ⟨(h30).rv, (h33).rv, trivial⟩ rfl rfl rfl rfl (fun a25 c26 => ?_)
  refine WL.freeze (fun J34 hJ35 h36 => ?_)
  have hI := hI.trans hJ35
  replace h30 := h30.up hJ35; replace h33 := h33.up hJ35
  obtain ⟨x37, e38, h⟩ := bnd h
  refine call cl69 rfl rfl (W69 e38 h36) (fun _ J39 _ hJ40 q41 => ?_)
  have hI := hI.trans hJ40
  replace h30 := h30.up hJ40; replace h33 := h33.up hJ40; replace h36 := h36.up hJ40
  obtain ⟨a42, c43, rfl, rfl⟩ := q41
  refine asg rfl rfl ?_
  refine WL.next ?_
  refine WC.ret ?_
  cases h
  exact ret1 Try.results40 rfl hI ⟨_, _, rfl, rfl⟩
theorem W41 {I : Mem} {G : List Asn} {p0 : List UInt8} {r : (List UInt8)} (h : segment_Record p0 = some r) {u0 : Value} (hp0 : IV I u0 p0) :
    CallsS Try.prog 41 #[u0] I (G) (fun v J G' => ∃ ra0 rc0, v = .slice ra0 r.length rc0 ∧ OV 5 (.slice ra0 r.length rc0) r :: G = G') := by
  refine CallsS.enter Try.func41 rfl Try.ntmps41 rfl (fun w0 => ?_)
  have hI := Mem.le.refl I
  obtain ⟨a0, c0, rfl⟩ := hp0.hd
  unfold segment_Record at h
  refine WC.seq ?_
  refine WC.region ?_
  refine asg rfl rfl ?_
  refine WL.next ?_
  refine WC.seq ?_
  refine WC.seq ?_
  refine WC.region ?_
  refine mv rfl rfl ?_
  refine ln et22 rfl (hp0.rd) rfl ?_
  refine gt rfl rfl rfl ?_
  refine WL.next ?_
  refine WC.ite rfl h (fun k1 h => ?_) (fun k1 h => ?_)
  · skip
    refine WC.seq ?_
    refine WC.region ?_
    refine asg rfl rfl ?_
    refine WL.next ?_
    refine WC.ret ?_
    refine WX.then_ret ?_
    refine WX.own_nil UInt8 5 ?_
    cases h
    exact ret1 Try.results41 rfl hI ⟨_, _, rfl, rfl⟩
  refine WC.skip ?_
  refine WX.then_ ?_
  refine WC.seq ?_
  refine WC.region ?_
  refine mv rfl rfl ?_
  refine bs (os := [.tmp 6]) (xs := ([p0] : List (List UInt8))) et37 rfl rfl ⟨(hp0).rv, trivial⟩ rfl rfl rfl rfl (fun a3 c4 => ?_)
  refine WL.freeze (fun J6 hJ7 h8 => ?_)
  have hI := hI.trans hJ7
  replace hp0 := hp0.up hJ7
  obtain ⟨x9, e10, h⟩ := bnd h
  refine call cl69 rfl rfl (W69 e10 h8) (fun _ J11 _ hJ12 q13 => ?_)
  have hI := hI.trans hJ12
  replace hp0 := hp0.up hJ12; replace h8 := h8.up hJ12
  obtain ⟨a14, c15, rfl, rfl⟩ := q13
  refine asg rfl rfl ?_
  refine WL.next ?_
  refine WC.ret ?_
  cases h
  exact ret1 Try.results41 rfl hI ⟨_, _, rfl, rfl⟩
theorem W46 {I : Mem} {G : List Asn} {p0 : List UInt8} {r : span_Reader} (h : span_New p0 = some r) {u0 : Value} (hp0 : IV I u0 p0) :
    CallsS Try.prog 46 #[u0] I (G) (fun v J G' => ∃ rg0, v = .pointer (some ⟨rg0, 0, none⟩) ∧ Ob_span_Reader rg0 r :: G = G') := by
  refine CallsS.enter Try.func46 rfl Try.ntmps46 rfl (fun w0 => ?_)
  have hI := Mem.le.refl I
  obtain ⟨a0, c0, rfl⟩ := hp0.hd
  unfold span_New at h
  refine WC.seq ?_
  refine WC.region ?_
  refine asg rfl rfl ?_
  refine WL.next ?_
  refine WC.seq ?_
  refine WC.region ?_
  refine mv rfl rfl ?_
  obtain ⟨x1, e2, h⟩ := bnd h
  refine call cl57 rfl rfl (W57 e2 hp0) (fun _ J3 _ hJ4 q5 => ?_)
  have hI := hI.trans hJ4
  replace hp0 := hp0.up hJ4
  obtain ⟨a6, c7, rfl, rfl⟩ := q5
  refine bu bt94 rfl rfl rfl ?_
  refine bx rfl rfl rfl (fun g9 => ?_)
  refine asg rfl rfl ?_
  refine WL.next ?_
  refine WC.ret ?_
  refine WX.front 1 ?_
  refine WX.freeze (fun J11 hJ12 h13 => ?_)
  have hI := hI.trans hJ12
  refine WX.shut_span_Reader (⟨x1, 0, false⟩ : span_Reader) h13 ?_
  cases h
  exact ret1 Try.results46 rfl hI ⟨_, rfl, rfl⟩
theorem W83 {I : Mem} {G : List Asn} {p0 : List UInt8} {r : Int × Int × Bool} (h : vint_Take p0 = some r) {u0 : Value} (hp0 : IV I u0 p0) :
    CallsS Try.prog 83 #[u0] I (G) (fun v J G' => v = .tuple #[.int .i64 r.1, .int .i64 r.2.1, .bool r.2.2] ∧ G = G') := by
  refine CallsS.enter Try.func83 rfl Try.ntmps83 rfl (fun w0 => ?_)
  have hI := Mem.le.refl I
  obtain ⟨a0, c0, rfl⟩ := hp0.hd
  unfold vint_Take at h
  refine WC.seq ?_
  refine WC.region ?_
  refine asg rfl rfl ?_
  refine asg rfl rfl ?_
  refine asg rfl rfl ?_
  refine WL.next ?_
  refine WC.seq ?_
  refine WC.seq ?_
  refine WC.region ?_
  refine mv rfl rfl ?_
  refine ln et22 rfl (hp0.rd) rfl ?_
  refine eq rfl rfl rfl ?_
  refine WL.next ?_
  refine WC.ite rfl h (fun k1 h => ?_) (fun k1 h => ?_)
  · skip
    refine WC.seq ?_
    refine WC.region ?_
    refine asg rfl rfl ?_
    refine asg rfl rfl ?_
    refine asg rfl rfl ?_
    refine WL.next ?_
    refine WC.ret ?_
    refine WX.then_ret ?_
    cases h
    exact ret3 Try.results83 rfl rfl rfl hI ⟨rfl, rfl⟩
  refine WC.skip ?_
  refine WX.then_ ?_
  refine WC.seq ?_
  refine WC.region ?_
  refine mv rfl rfl ?_
  obtain ⟨z2, e3, h⟩ := bnd h
  refine ixi et22 rfl rfl hp0 e3 rfl (fun uv4 h5 => ?_)
  refine ldi (α := UInt8) na5 rfl h5 rfl (fun uv6 h7 => ?_)
  obtain rfl := h7.u8
  refine srb (a := z2) (by decide) rfl rfl rfl rfl ?_
  refine sl (Int.natCast_nonneg _) rfl rfl rfl ?_
  refine asg rfl rfl ?_
  refine WL.next ?_
  refine WC.seq ?_
  refine WC.seq ?_
  refine WC.region ?_
  refine mv rfl rfl ?_
  refine mv rfl rfl ?_
  refine ln et22 rfl (hp0.rd) rfl ?_
  refine gt rfl rfl rfl ?_
  refine WL.next ?_
  refine WC.ite rfl h (fun k8 h => ?_) (fun k8 h => ?_)
  · skip
    refine WC.seq ?_
    refine WC.region ?_
    refine asg rfl rfl ?_
    refine asg rfl rfl ?_
    refine asg rfl rfl ?_
    refine WL.next ?_
    refine WC.ret ?_
    refine WX.then_ret ?_
    cases h
    exact ret3 Try.results83 rfl rfl rfl hI ⟨rfl, rfl⟩
  refine WC.skip ?_
  refine WX.then_ ?_
  refine WC.seq ?_
  refine WC.region ?_
  refine mv rfl rfl ?_
  obtain ⟨z9, e10, h⟩ := bnd h
  refine ixi et22 rfl rfl hp0 e10 rfl (fun uv11 h12 => ?_)
  refine ldi (α := UInt8) na5 rfl h12 rfl (fun uv13 h14 => ?_)
  obtain rfl := h14.u8
  refine and8 (a := z9) (b := (63 : UInt8)) rfl rfl rfl rfl rfl ?_
  refine cv8i Try.underlying5 Try.underlying3 rfl rfl ?_
  refine asg rfl rfl ?_
  refine WL.next ?_
  refine WC.seq ?_
  refine WC.seq ?_
  refine WC.region ?_
  refine mv rfl rfl ?_
  refine mv rfl rfl ?_
  obtain ⟨y15, e16, h⟩ := bnd h
  refine cti (kl := .i64) (kh := .i64) et22 rfl hp0 (.inr ⟨_, rfl, rfl, rfl⟩) (.inr ⟨_, rfl, rfl, rfl⟩) e16 rfl (fun a17 c18 h19 => ?_)
  refine ln et22 rfl (h19.rd) rfl ?_
  refine mv rfl rfl ?_
  refine WL.next ?_
  obtain ⟨j44, hj44, h⟩ := bnd h
  refine WC.joinQ (σ := Int) (fun x43 => [(0, (.slice a0 p0.length c0)), (2, (.int .i64 x43)), (3, (.int .i64 (sl64 1 ((sr8 z2 6).toNat : Int))))]) (fun x43 => G) (fun x43 J => x43 = j44) (fun kj44 => ?_) ?_
  · skip
    have lj44 := Mem.le.refl I
    refine WC.block ?_
    refine WC.loop (σ := Int × Int) (fun k (x45, x46) => vint_Take_l0 y15 k x45 x46) _ (fun (x45, x46) => [(0, (.slice a0 p0.length c0)), (2, (.int .i64 x45)), (3, (.int .i64 (sl64 1 ((sr8 z2 6).toNat : Int)))), (26, (.slice a17 y15.length c18)), (27, (.int .i64 (y15.length : Int))), (28, (.int .i64 x46))]) (fun (x45, x46) => G) (fun (x45, x46) J => True) (fun ⟨x45, x46⟩ => rfl) bigN ⟨((z9 &&& (63 : UInt8)).toNat : Int), 0⟩ hj44 trivial ⟨rfl, rfl, rfl, rfl, rfl, rfl, trivial⟩ rfl ?_
    rintro k0 ih0 ⟨x45, x46⟩ J57 hJ58 - hj44
    change vint_Take_l0 y15 (k0 + 1) x45 x46 = _ at hj44
    rw [vint_Take_l0] at hj44
    have hI := hI.trans hJ58
    have lj44 := lj44.trans hJ58
    replace hp0 := hp0.up hJ58; replace h19 := h19.up hJ58
    have ll0 := hJ58
    refine WC.seq ?_
    refine WC.region ?_
    refine lt rfl rfl rfl ?_
    refine WL.next ?_
    refine WC.seq ?_
    refine WC.ite rfl hj44 (fun k59 hj44 => ?_) (fun k59 hj44 => ?_)
    · skip
      refine WC.skip ?_
      refine WX.then_ ?_
      refine WC.seq ?_
      refine WC.block ?_
      refine WC.seq ?_
      refine WC.region ?_
      obtain ⟨z60, e61, hj44⟩ := bnd hj44
      refine ixi et22 rfl rfl h19 e61 rfl (fun uv62 h63 => ?_)
      refine ldi (α := UInt8) na5 rfl h63 rfl (fun uv64 h65 => ?_)
      obtain rfl := h65.u8
      refine asg rfl rfl ?_
      refine WL.next ?_
      refine WC.region ?_
      refine mv rfl rfl ?_
      refine sl (by decide) rfl rfl rfl ?_
      refine mv rfl rfl ?_
      refine cv8i Try.underlying5 Try.underlying3 rfl rfl ?_
      refine bt (.inr (.inl rfl)) rfl rfl rfl ?_
      obtain ⟨x66, e67, hj44⟩ := bnd hj44
      refine WL.re (congrArg (Value.int .i64) (Option.some.inj e67)) ?_
      refine asg rfl rfl ?_
      refine WL.nil ?_
      refine WX.block_normal ?_
      refine WX.then_ ?_
      refine WC.region ?_
      refine ad rfl rfl rfl ?_
      refine mv rfl rfl ?_
      refine WL.nil ?_
      refine WX.round ?_
      exact (ih0 ⟨x66, w64 (x46 + 1)⟩ _ ll0 trivial hj44).sub ⟨rfl, rfl, rfl, rfl, rfl, rfl, trivial⟩
    refine WC.exit ?_
    refine WX.then_exit ?_
    refine WX.then_exit ?_
    refine WX.block_here ?_
    exact (kj44 x45 _ lj44 (Option.some.inj hj44)).sub ⟨rfl, rfl, rfl, trivial⟩
  rintro x43 J68 hJ69 rfl
  have hI := hI.trans hJ69
  replace hp0 := hp0.up hJ69
  refine WX.then_ ?_
  refine WC.seq ?_
  refine WC.seq ?_
  refine WC.sub (r := [(0, (.slice a0 p0.length c0)), (2, (.int .i64 x43)), (3, (.int .i64 (sl64 1 ((sr8 z2 6).toNat : Int))))]) ?_ ⟨rfl, rfl, rfl, trivial⟩
  obtain ⟨x70, e71, h⟩ := bnd h
  obtain ⟨y78, e79, h⟩ := bnd h
  obtain ⟨x86, e87, h⟩ := bnd h
  refine WC.drawn mo (nthL [[], [0], [], [], [2, 3], [0, 1, 2, 3, 4], [0, 1, 2, 3, 4, 5]]) (nthL [[], [0], [], [], [2, 3], [1, 4], [5]]) (nthK [.val (.int .i64 x43), .any, .val (.slice a0 p0.length c0), .val (.int .i64 (sl64 1 ((sr8 z2 6).toNat : Int))), .imm y78, .val (.bool x86), .val (.bool (!x86))]) [⟨(some 1), (some 5), [], [1], fun l => OV 5 (vget l 0) x70⟩] (by kernel_rfl) (by kernel_rfl) (by kernel_rfl) (H := G) rfl ⟨?_, ?_, ?_, ?_, ?_, ?_, ?_, trivial⟩ ?_
  · intro Q ρ I1 H hI1 hk hpost
    have hc := Mem.le.refl I1
    refine mv rfl rfl ?_
    refine WL.nil ?_
    exact hpost _ _ hc rfl _ (fun _ hd => by obtain rfl := Option.some.inj hd; exact ⟨rfl, trivial⟩)
  · intro Q ρ I1 H hI1 hk hpost
    obtain ⟨_, -⟩ := hk
    have hc := Mem.le.refl I1
    refine call cl59 rfl rfl (W59 e71) (fun _ J72 _ hJ73 q74 => ?_)
    have hc := hc.trans hJ73
    obtain ⟨a75, c76, rfl, rfl⟩ := q74
    refine WL.nil ?_
    exact hpost _ _ hc trivial _ (fun _ hd => by obtain rfl := Option.some.inj hd; exact ⟨rfl, trivial⟩)
  · intro Q ρ I1 H hI1 hk hpost
    have hc := Mem.le.refl I1
    refine mv rfl rfl ?_
    refine WL.nil ?_
    exact hpost _ _ hc rfl _ (fun _ hd => by obtain rfl := Option.some.inj hd; exact ⟨rfl, trivial⟩)
  · intro Q ρ I1 H hI1 hk hpost
    have hc := Mem.le.refl I1
    refine mv rfl rfl ?_
    refine WL.nil ?_
    exact hpost _ _ hc rfl _ (fun _ hd => by obtain rfl := Option.some.inj hd; exact ⟨rfl, trivial⟩)
  · intro Q ρ I1 H hI1 hk hpost
    obtain ⟨_, _, -⟩ := hk
    replace hp0 := hp0.up hI1
    have hc := Mem.le.refl I1
    refine cti (kl := .i64) (kh := .i64) et22 rfl hp0 (.inl ⟨rfl, rfl, rfl⟩) (.inr ⟨_, rfl, rfl, rfl⟩) e79 rfl (fun a80 c81 h82 => ?_)
    refine WL.nil ?_
    exact hpost _ _ hc h82 _ (fun _ hd => by obtain rfl := Option.some.inj hd; exact ⟨rfl, trivial⟩)
  · intro Q ρ I1 H hI1 hk hpost
    obtain ⟨_, k4, -⟩ := hk
    have hc := Mem.le.refl I1
    refine WL.freeze (fun J83 hJ84 h85 => ?_)
    have hc := hc.trans hJ84
    replace k4 := k4.up hJ84
    refine call cl56 rfl rfl (W56 e87 h85 k4) (fun _ J88 _ hJ89 q90 => ?_)
    have hc := hc.trans hJ89
    replace h85 := h85.up hJ89; replace k4 := k4.up hJ89
    obtain ⟨rfl, rfl⟩ := q90
    refine WL.nil ?_
    exact hpost _ _ hc rfl _ (fun _ hd => by obtain rfl := Option.some.inj hd; exact ⟨rfl, trivial⟩)
  · intro Q ρ I1 H hI1 hk hpost
    obtain ⟨_, -⟩ := hk
    have hc := Mem.le.refl I1
    refine nt rfl rfl ?_
    refine WL.nil ?_
    exact hpost _ _ hc rfl _ (fun _ hd => by obtain rfl := Option.some.inj hd; exact ⟨rfl, trivial⟩)
  rintro ρ J91 hJ92 -
  refine WX.sub (r := [(2, (.int .i64 x43)), (3, (.int .i64 (sl64 1 ((sr8 z2 6).toNat : Int)))), (44, (.bool (!x86)))]) ?_ ⟨rfl, rfl, rfl, trivial⟩
  refine WX.is (H := G) rfl ?_
  have hI := hI.trans hJ92
  refine WX.then_ ?_
  refine WC.itebn rfl h (fun k93 h => ?_) (fun k93 h => ?_)
  · skip
    refine WC.skip ?_
    refine WX.then_ ?_
    refine WC.seq ?_
    refine WC.region ?_
    refine mv rfl rfl ?_
    refine mv rfl rfl ?_
    refine asg rfl rfl ?_
    refine asg rfl rfl ?_
    refine asg rfl rfl ?_
    refine WL.next ?_
    refine WC.ret ?_
    cases h
    exact ret3 Try.results83 rfl rfl rfl hI ⟨rfl, rfl⟩
  refine WC.seq ?_
  refine WC.region ?_
  refine asg rfl rfl ?_
  refine asg rfl rfl ?_
  refine asg rfl rfl ?_
  refine WL.next ?_
  refine WC.ret ?_
  refine WX.then_ret ?_
  cases h
  exact ret3 Try.results83 rfl rfl rfl hI ⟨rfl, rfl⟩
theorem W48 {I : Mem} {G : List Asn} {p0 : span_Reader} {r : Int × span_Reader} (h : span_Reader_Left p0 = some r) {g0 : Nat} :
    CallsS Try.prog 48 #[.pointer (some ⟨g0, 0, none⟩)] I (Ob_span_Reader g0 p0 :: G) (fun v J G' => v = .int .i64 r.1 ∧ Ob_span_Reader g0 (r.2) :: G = G') := by
  refine CallsS.enter Try.func48 rfl Try.ntmps48 rfl (fun w0 => ?_)
  have hI := Mem.le.refl I
  unfold span_Reader_Left at h
  refine WC.seq ?_
  refine WC.region ?_
  refine asg rfl rfl ?_
  refine WL.next ?_
  refine WC.seq ?_
  refine WC.open_span_Reader (fun a2 c3 h4 => ?_)
  refine WC.sub (r := [(0, (.pointer (some ⟨g0, 0, none⟩)))]) ?_ ⟨rfl, trivial⟩
  obtain ⟨x5, e6, h⟩ := bnd h
  refine WC.drawn mo (nthL [[], [0], [0, 1], [0, 1, 2], [0, 1, 2, 3], [], [5], [5, 6], [5, 6, 7], [0, 1, 2, 3, 4, 5, 6, 7, 8], [0, 1, 2, 3, 4, 5, 6, 7, 8, 9]]) (nthL [[], [0], [1], [2], [3], [], [5], [6], [7], [4, 8], [9]]) (nthK [.val (.pointer (some ⟨g0, 0, none⟩)), .val (.pointer (some ⟨g0, 0, none⟩)), .val (.pointer (some ⟨g0, 0, none⟩)), .val (.slice a2 p0.b_.length c3), .val (.int .i64 (p0.b_.length : Int)), .val (.pointer (some ⟨g0, 0, none⟩)), .val (.pointer (some ⟨g0, 0, none⟩)), .val (.pointer (some ⟨g0, 1, none⟩)), .val (.int .i64 p0.at_), .val (.int .i64 x5), .val (.int .i64 x5)]) [⟨none, none, [3, 8], [], fun _ => bl g0 #[(.slice a2 p0.b_.length c3), (.int .i64 p0.at_), (.bool p0.bad_)] 94⟩] (by kernel_rfl) (by kernel_rfl) (by kernel_rfl) (H := G) rfl ⟨?_, ?_, ?_, ?_, ?_, ?_, ?_, ?_, ?_, ?_, ?_, trivial⟩ ?_
  · intro Q ρ I1 H hI1 hk hpost
    have hc := Mem.le.refl I1
    refine mv rfl rfl ?_
    refine WL.nil ?_
    exact hpost _ _ hc rfl _ (fun _ hd => by obtain rfl := Option.some.inj hd; exact ⟨rfl, trivial⟩)
  · intro Q ρ I1 H hI1 hk hpost
    obtain ⟨_, -⟩ := hk
    have hc := Mem.le.refl I1
    refine nc rfl rfl ?_
    refine WL.nil ?_
    exact hpost _ _ hc rfl _ (fun _ hd => by obtain rfl := Option.some.inj hd; exact ⟨rfl, trivial⟩)
  · intro Q ρ I1 H hI1 hk hpost
    obtain ⟨_, -⟩ := hk
    have hc := Mem.le.refl I1
    refine fa fl94_0 rfl rfl ?_
    refine WL.nil ?_
    exact hpost _ _ hc rfl _ (fun _ hd => by obtain rfl := Option.some.inj hd; exact ⟨rfl, trivial⟩)
  · intro Q ρ I1 H hI1 hk hpost
    obtain ⟨_, -⟩ := hk
    have hc := Mem.le.refl I1
    refine ld 0 na22 rfl rfl rfl rfl ?_
    refine WL.nil ?_
    exact hpost _ _ hc rfl _ (fun _ hd => by obtain rfl := Option.some.inj hd; exact ⟨rfl, trivial⟩)
  · intro Q ρ I1 H hI1 hk hpost
    obtain ⟨_, -⟩ := hk
    replace h4 := h4.up hI1
    have hc := Mem.le.refl I1
    refine ln et22 rfl (h4.rd) rfl ?_
    refine WL.nil ?_
    exact hpost _ _ hc rfl _ (fun _ hd => by obtain rfl := Option.some.inj hd; exact ⟨rfl, trivial⟩)
  · intro Q ρ I1 H hI1 hk hpost
    have hc := Mem.le.refl I1
    refine mv rfl rfl ?_
    refine WL.nil ?_
    exact hpost _ _ hc rfl _ (fun _ hd => by obtain rfl := Option.some.inj hd; exact ⟨rfl, trivial⟩)
  · intro Q ρ I1 H hI1 hk hpost
    obtain ⟨_, -⟩ := hk
    have hc := Mem.le.refl I1
    refine nc rfl rfl ?_
    refine WL.nil ?_
    exact hpost _ _ hc rfl _ (fun _ hd => by obtain rfl := Option.some.inj hd; exact ⟨rfl, trivial⟩)
  · intro Q ρ I1 H hI1 hk hpost
    obtain ⟨_, -⟩ := hk
    have hc := Mem.le.refl I1
    refine fa fl94_1 rfl rfl ?_
    refine WL.nil ?_
    exact hpost _ _ hc rfl _ (fun _ hd => by obtain rfl := Option.some.inj hd; exact ⟨rfl, trivial⟩)
  · intro Q ρ I1 H hI1 hk hpost
    obtain ⟨_, -⟩ := hk
    have hc := Mem.le.refl I1
    refine ld 0 na3 rfl rfl rfl rfl ?_
    refine WL.nil ?_
    exact hpost _ _ hc rfl _ (fun _ hd => by obtain rfl := Option.some.inj hd; exact ⟨rfl, trivial⟩)
  · intro Q ρ I1 H hI1 hk hpost
    obtain ⟨_, _, -⟩ := hk
    have hc := Mem.le.refl I1
    refine su rfl rfl rfl ?_
    refine WL.re (congrArg (Value.int .i64) (Option.some.inj e6)) ?_
    refine WL.nil ?_
    exact hpost _ _ hc rfl _ (fun _ hd => by obtain rfl := Option.some.inj hd; exact ⟨rfl, trivial⟩)
  · intro Q ρ I1 H hI1 hk hpost
    obtain ⟨_, -⟩ := hk
    have hc := Mem.le.refl I1
    refine asg rfl rfl ?_
    refine WL.nil ?_
    exact hpost _ _ hc rfl _ (fun _ hd => by obtain rfl := Option.some.inj hd; exact ⟨rfl, trivial⟩)
  rintro ρ J7 hJ8 -
  refine WX.sub (r := [(2, (.int .i64 x5))]) ?_ ⟨rfl, trivial⟩
  refine WX.is (H := bl g0 #[(.slice a2 p0.b_.length c3), (.int .i64 p0.at_), (.bool p0.bad_)] 94 :: G) rfl ?_
  have hI := hI.trans hJ8
  replace h4 := h4.up hJ8
  refine WX.then_ ?_
  refine WC.ret ?_
  refine WX.shut_span_Reader (⟨p0.b_, p0.at_, p0.bad_⟩ : span_Reader) h4 ?_
  cases h
  exact ret1 Try.results48 rfl hI ⟨rfl, rfl⟩
theorem W75 {I : Mem} {G : List Asn} {p0 : span_Reader} {p1 : Int} {r : (List UInt8) × span_Reader} (h : span_Reader_Bytes p0 p1 = some r) {g0 : Nat} :
    CallsS Try.prog 75 #[.pointer (some ⟨g0, 0, none⟩), .int .i64 p1] I (Ob_span_Reader g0 p0 :: G) (fun v J G' => ∃ ra0 rc0, v = .slice ra0 r.1.length rc0 ∧ OV 5 (.slice ra0 r.1.length rc0) r.1 :: Ob_span_Reader g0 (r.2) :: G = G') := by
  refine CallsS.enter Try.func75 rfl Try.ntmps75 rfl (fun w0 => ?_)
  have hI := Mem.le.refl I
  unfold span_Reader_Bytes at h
  refine WC.seq ?_
  refine WC.region ?_
  refine asg rfl rfl ?_
  refine WL.next ?_
  refine WC.seq ?_
  refine WC.open_span_Reader (fun a2 c3 h4 => ?_)
  refine WC.sub (r := [(0, (.pointer (some ⟨g0, 0, none⟩))), (1, (.int .i64 p1))]) ?_ ⟨rfl, rfl, trivial⟩
  obtain ⟨y5, e6, h⟩ := bnd h
  obtain ⟨⟨x10, x11, x12⟩, e13, h⟩ := bnd h
  refine WC.drawn mo (nthL [[], [0], [0, 1], [0, 1, 2], [], [4], [4, 5], [4, 5, 6], [0, 1, 2, 3, 4, 5, 6, 7], [0, 1, 2, 3, 4, 5, 6, 7, 8], [0, 1, 2, 3, 4, 5, 6, 7, 8, 9], [0, 1, 2, 3, 4, 5, 6, 7, 8, 9, 10], [0, 1, 2, 3, 4, 5, 6, 7, 8, 9, 10], [0, 1, 2, 3, 4, 5, 6, 7, 8, 9, 10], [0, 1, 2, 3, 4, 5, 6, 7, 8, 9, 10, 11], [0, 1, 2, 3, 4, 5, 6, 7, 8, 9, 10, 11, 12, 14], [0, 1, 2, 3, 4, 5, 6, 7, 8, 9, 10, 11, 12, 13, 14, 15]]) (nthL [[], [0], [1], [2], [], [4], [5], [6], [3, 7], [8], [9], [10], [10], [10], [11], [12], [13]]) (nthK [.val (.pointer (some ⟨g0, 0, none⟩)), .val (.pointer (some ⟨g0, 0, none⟩)), .val (.pointer (some ⟨g0, 0, none⟩)), .val (.slice a2 p0.b_.length c3), .val (.pointer (some ⟨g0, 0, none⟩)), .val (.pointer (some ⟨g0, 0, none⟩)), .val (.pointer (some ⟨g0, 1, none⟩)), .val (.int .i64 p0.at_), .imm y5, .val (.tuple #[(.int .i64 x10), (.int .i64 x11), (.bool x12)]), .val (.tuple #[(.int .i64 x10), (.int .i64 x11), (.bool x12)]), .val (.int .i64 x10), .val (.int .i64 x11), .val (.bool x12), .val (.int .i64 x10), .val (.int .i64 x11), .val (.bool x12)]) [⟨none, none, [3, 7], [], fun _ => bl g0 #[(.slice a2 p0.b_.length c3), (.int .i64 p0.at_), (.bool p0.bad_)] 94⟩] (by kernel_rfl) (by kernel_rfl) (by kernel_rfl) (H := G) rfl ⟨?_, ?_, ?_, ?_, ?_, ?_, ?_, ?_, ?_, ?_, ?_, ?_, ?_, ?_, ?_, ?_, ?_, trivial⟩ ?_
  · intro Q ρ I1 H hI1 hk hpost
    have hc := Mem.le.refl I1
    refine mv rfl rfl ?_
    refine WL.nil ?_
    exact hpost _ _ hc rfl _ (fun _ hd => by obtain rfl := Option.some.inj hd; exact ⟨rfl, trivial⟩)
  · intro Q ρ I1 H hI1 hk hpost
    obtain ⟨_, -⟩ := hk
    have hc := Mem.le.refl I1
    refine nc rfl rfl ?_
    refine WL.nil ?_
    exact hpost _ _ hc rfl _ (fun _ hd => by obtain rfl := Option.some.inj hd; exact ⟨rfl, trivial⟩)
  · intro Q ρ I1 H hI1 hk hpost
    obtain ⟨_, -⟩ := hk
    have hc := Mem.le.refl I1
    refine fa fl94_0 rfl rfl ?_
    refine WL.nil ?_
    exact hpost _ _ hc rfl _ (fun _ hd => by obtain rfl := Option.some.inj hd; exact ⟨rfl, trivial⟩)
  · intro Q ρ I1 H hI1 hk hpost
    obtain ⟨_, -⟩ := hk
    have hc := Mem.le.refl I1
    refine ld 0 na22 rfl rfl rfl rfl ?_
    refine WL.nil ?_
    exact hpost _ _ hc rfl _ (fun _ hd => by obtain rfl := Option.some.inj hd; exact ⟨rfl, trivial⟩)
  · intro Q ρ I1 H hI1 hk hpost
    have hc := Mem.le.refl I1
    refine mv rfl rfl ?_
    refine WL.nil ?_
    exact hpost _ _ hc rfl _ (fun _ hd => by obtain rfl := Option.some.inj hd; exact ⟨rfl, trivial⟩)
  · intro Q ρ I1 H hI1 hk hpost
    obtain ⟨_, -⟩ := hk
    have hc := Mem.le.refl I1
    refine nc rfl rfl ?_
    refine WL.nil ?_
    exact hpost _ _ hc rfl _ (fun _ hd => by obtain rfl := Option.some.inj hd; exact ⟨rfl, trivial⟩)
  · intro Q ρ I1 H hI1 hk hpost
    obtain ⟨_, -⟩ := hk
    have hc := Mem.le.refl I1
    refine fa fl94_1 rfl rfl ?_
    refine WL.nil ?_
    exact hpost _ _ hc rfl _ (fun _ hd => by obtain rfl := Option.some.inj hd; exact ⟨rfl, trivial⟩)
  · intro Q ρ I1 H hI1 hk hpost
    obtain ⟨_, -⟩ := hk
    have hc := Mem.le.refl I1
    refine ld 0 na3 rfl rfl rfl rfl ?_
    refine WL.nil ?_
    exact hpost _ _ hc rfl _ (fun _ hd => by obtain rfl := Option.some.inj hd; exact ⟨rfl, trivial⟩)
  · intro Q ρ I1 H hI1 hk hpost
    obtain ⟨_, _, -⟩ := hk
    replace h4 := h4.up hI1
    have hc := Mem.le.refl I1
    refine cti (kl := .i64) (kh := .i64) et22 rfl h4 (.inr ⟨_, rfl, rfl, rfl⟩) (.inl ⟨rfl, rfl, rfl⟩) e6 rfl (fun a7 c8 h9 => ?_)
    refine WL.nil ?_
    exact hpost _ _ hc h9 _ (fun _ hd => by obtain rfl := Option.some.inj hd; exact ⟨rfl, trivial⟩)
  · intro Q ρ I1 H hI1 hk hpost
    obtain ⟨k8, -⟩ := hk
    have hc := Mem.le.refl I1
    refine call cl83 rfl rfl (W83 e13 k8) (fun _ J14 _ hJ15 q16 => ?_)
    have hc := hc.trans hJ15
    replace k8 := k8.up hJ15
    obtain ⟨rfl, rfl⟩ := q16
    refine WL.nil ?_
    exact hpost _ _ hc rfl _ (fun _ hd => by obtain rfl := Option.some.inj hd; exact ⟨rfl, trivial⟩)
  · intro Q ρ I1 H hI1 hk hpost
    obtain ⟨_, -⟩ := hk
    have hc := Mem.le.refl I1
    refine mv rfl rfl ?_
    refine WL.nil ?_
    exact hpost _ _ hc rfl _ (fun _ hd => by obtain rfl := Option.some.inj hd; exact ⟨rfl, trivial⟩)
  · intro Q ρ I1 H hI1 hk hpost
    obtain ⟨_, -⟩ := hk
    have hc := Mem.le.refl I1
    refine ex rfl rfl rfl ?_
    refine WL.nil ?_
    exact hpost _ _ hc rfl _ (fun _ hd => by obtain rfl := Option.some.inj hd; exact ⟨rfl, trivial⟩)
  · intro Q ρ I1 H hI1 hk hpost
    obtain ⟨_, -⟩ := hk
    have hc := Mem.le.refl I1
    refine ex rfl rfl rfl ?_
    refine WL.nil ?_
    exact hpost _ _ hc rfl _ (fun _ hd => by obtain rfl := Option.some.inj hd; exact ⟨rfl, trivial⟩)
  · intro Q ρ I1 H hI1 hk hpost
    obtain ⟨_, -⟩ := hk
    have hc := Mem.le.refl I1
    refine ex rfl rfl rfl ?_
    refine WL.nil ?_
    exact hpost _ _ hc rfl _ (fun _ hd => by obtain rfl := Option.some.inj hd; exact ⟨rfl, trivial⟩)
  · intro Q ρ I1 H hI1 hk hpost
    obtain ⟨_, -⟩ := hk
    have hc := Mem.le.refl I1
    refine asg rfl rfl ?_
    refine WL.nil ?_
    exact hpost _ _ hc rfl _ (fun _ hd => by obtain rfl := Option.some.inj hd; exact ⟨rfl, trivial⟩)
  · intro Q ρ I1 H hI1 hk hpost
    obtain ⟨_, -⟩ := hk
    have hc := Mem.le.refl I1
    refine asg rfl rfl ?_
    refine WL.nil ?_
    exact hpost _ _ hc rfl _ (fun _ hd => by obtain rfl := Option.some.inj hd; exact ⟨rfl, trivial⟩)
  · intro Q ρ I1 H hI1 hk hpost
    obtain ⟨_, -⟩ := hk
    have hc := Mem.le.refl I1
    refine asg rfl rfl ?_
    refine WL.nil ?_
    exact hpost _ _ hc rfl _ (fun _ hd => by obtain rfl := Option.some.inj hd; exact ⟨rfl, trivial⟩)
  rintro ρ J17 hJ18 -
  refine WX.sub (r := [(0, (.pointer (some ⟨g0, 0, none⟩))), (1, (.int .i64 p1)), (5, (.int .i64 x10)), (6, (.int .i64 x11)), (7, (.bool x12))]) ?_ ⟨rfl, rfl, rfl, rfl, rfl, trivial⟩
  refine WX.is (H := bl g0 #[(.slice a2 p0.b_.length c3), (.int .i64 p0.at_), (.bool p0.bad_)] 94 :: G) rfl ?_
  have hI := hI.trans hJ18
  replace h4 := h4.up hJ18
  refine WX.then_ ?_
  refine WC.seq ?_
  refine WC.seq ?_
  obtain ⟨j39, hj39, h⟩ := bnd h
  refine WC.joinQ (σ := span_Reader × Bool) (fun (s37, x38) => [(0, (.pointer (some ⟨g0, 0, none⟩))), (5, (.int .i64 x10)), (6, (.int .i64 x11)), (43, (.bool x38))]) (fun (s37, x38) => Ob_span_Reader g0 s37 :: G) (fun (s37, x38) J => (s37, x38) = j39) (fun kj39 => ?_) ?_
  · skip
    have lj39 := Mem.le.refl J17
    refine WC.region ?_
    refine mv rfl rfl ?_
    refine nc rfl rfl ?_
    refine fa fl94_2 rfl rfl ?_
    refine ld 0 na4 rfl rfl rfl rfl ?_
    refine mv rfl rfl ?_
    rcases spl hj39 with ⟨k40, hj39⟩ | ⟨k40, hj39⟩
    · skip
      refine WL.rb 27 rfl (bt1 k40) ?_
      refine WL.no rfl rfl rfl rfl ?_
      refine WL.no rfl rfl rfl rfl ?_
      refine pkT rfl rfl rfl ?_
      refine mv rfl rfl ?_
      refine WL.no rfl rfl rfl rfl ?_
      refine WL.no rfl rfl rfl rfl ?_
      refine WL.no rfl rfl rfl rfl ?_
      refine pkT rfl rfl rfl ?_
      refine mv rfl rfl ?_
      refine WL.no rfl rfl rfl rfl ?_
      refine WL.no rfl rfl rfl rfl ?_
      refine WL.no rfl rfl rfl rfl ?_
      refine WL.no rfl rfl rfl rfl ?_
      refine WL.no rfl rfl rfl rfl ?_
      refine WL.no rfl rfl rfl rfl ?_
      refine pkT rfl rfl rfl ?_
      refine WL.nil ?_
      refine WX.shut_span_Reader (⟨p0.b_, p0.at_, p0.bad_⟩ : span_Reader) h4 ?_
      exact (kj39 ⟨(⟨p0.b_, p0.at_, p0.bad_⟩ : span_Reader), true⟩ _ lj39 (Option.some.inj hj39)).sub ⟨rfl, rfl, rfl, rfl, trivial⟩
    refine WL.rb 27 rfl (bf1 k40) ?_
    refine WL.on rfl rfl ?_
    refine mv rfl rfl ?_
    refine WL.on rfl rfl ?_
    refine nt rfl rfl ?_
    refine pkF rfl rfl rfl ?_
    refine mv rfl rfl ?_
    rcases spl hj39 with ⟨k41, hj39⟩ | ⟨k41, hj39⟩
    · skip
      refine WL.rb 31 rfl (bt1n k41) ?_
      refine WL.on rfl rfl ?_
      refine mv rfl rfl ?_
      refine WL.on rfl rfl ?_
      refine mv rfl rfl ?_
      refine WL.on rfl rfl ?_
      refine gt rfl rfl rfl ?_
      refine pkF rfl rfl rfl ?_
      refine mv rfl rfl ?_
      rcases spl hj39 with ⟨k42, hj39⟩ | ⟨k42, hj39⟩
      · skip
        refine WL.rb 36 rfl (bT k42) ?_
        refine WL.no rfl rfl rfl rfl ?_
        refine WL.no rfl rfl rfl rfl ?_
        refine WL.no rfl rfl rfl rfl ?_
        refine WL.no rfl rfl rfl rfl ?_
        refine WL.no rfl rfl rfl rfl ?_
        refine WL.no rfl rfl rfl rfl ?_
        refine pkT rfl rfl rfl ?_
        refine WL.nil ?_
        refine WX.shut_span_Reader (⟨p0.b_, p0.at_, p0.bad_⟩ : span_Reader) h4 ?_
        exact (kj39 ⟨(⟨p0.b_, p0.at_, p0.bad_⟩ : span_Reader), true⟩ _ lj39 (Option.some.inj hj39)).sub ⟨rfl, rfl, rfl, rfl, trivial⟩
      refine WL.rb 36 rfl (bF k42) ?_
      refine WL.on rfl rfl ?_
      refine mv rfl rfl ?_
      refine WL.on rfl rfl ?_
      refine mv rfl rfl ?_
      refine WL.on rfl rfl ?_
      refine WL.shut_span_Reader (⟨p0.b_, p0.at_, p0.bad_⟩ : span_Reader) h4 ?_
      obtain ⟨⟨x43, s44⟩, e45, hj39⟩ := bnd hj39
      refine call cl48 rfl rfl (W48 e45) (fun _ J46 _ hJ47 q48 => ?_)
      have hI := hI.trans hJ47
      have lj39 := lj39.trans hJ47
      obtain ⟨rfl, rfl⟩ := q48
      refine WL.on rfl rfl ?_
      refine mv rfl rfl ?_
      refine WL.on rfl rfl ?_
      refine su rfl rfl rfl ?_
      refine WL.on rfl rfl ?_
      refine gt rfl rfl rfl ?_
      refine pkF rfl rfl rfl ?_
      refine WL.nil ?_
      exact (kj39 ⟨s44, (decide ((w64 (x43 - x11)) < x10))⟩ _ lj39 (Option.some.inj hj39)).sub ⟨rfl, rfl, rfl, rfl, trivial⟩
    refine WL.rb 31 rfl (bf1n k41) ?_
    refine WL.no rfl rfl rfl rfl ?_
    refine WL.no rfl rfl rfl rfl ?_
    refine WL.no rfl rfl rfl rfl ?_
    refine pkT rfl rfl rfl ?_
    refine mv rfl rfl ?_
    refine WL.no rfl rfl rfl rfl ?_
    refine WL.no rfl rfl rfl rfl ?_
    refine WL.no rfl rfl rfl rfl ?_
    refine WL.no rfl rfl rfl rfl ?_
    refine WL.no rfl rfl rfl rfl ?_
    refine WL.no rfl rfl rfl rfl ?_
    refine pkT rfl rfl rfl ?_
    refine WL.nil ?_
    refine WX.shut_span_Reader (⟨p0.b_, p0.at_, p0.bad_⟩ : span_Reader) h4 ?_
    exact (kj39 ⟨(⟨p0.b_, p0.at_, p0.bad_⟩ : span_Reader), true⟩ _ lj39 (Option.some.inj hj39)).sub ⟨rfl, rfl, rfl, rfl, trivial⟩
  rintro ⟨s37, x38⟩ J49 hJ50 rfl
  have hI := hI.trans hJ50
  refine WX.then_ ?_
  refine WC.iteb rfl h (fun k51 h => ?_) (fun k51 h => ?_)
  · skip
    refine WC.seq ?_
    refine WC.region ?_
    refine mv rfl rfl ?_
    refine nc rfl rfl ?_
    refine fa fl94_2 rfl rfl ?_
    refine WL.open_span_Reader (fun a52 c53 h54 => ?_)
    refine st (C' := #[(.slice a52 s37.b_.length c53), (.int .i64 s37.at_), (.bool true)]) sz4 rfl rfl rfl rfl rfl ?_
    refine WL.next ?_
    refine WC.seq ?_
    refine WC.region ?_
    refine asg rfl rfl ?_
    refine WL.next ?_
    refine WC.ret ?_
    refine WX.then_ret ?_
    refine WX.own_nil UInt8 5 ?_
    refine WX.front 1 ?_
    refine WX.shut_span_Reader (⟨s37.b_, s37.at_, true⟩ : span_Reader) h54 ?_
    refine WX.front 1 ?_
    cases h
    exact ret1 Try.results75 rfl hI ⟨_, _, rfl, rfl⟩
  refine WC.skip ?_
  refine WX.then_ ?_
  refine WC.seq ?_
  refine WC.region ?_
  refine mv rfl rfl ?_
  refine nc rfl rfl ?_
  refine fa fl94_1 rfl rfl ?_
  refine WL.open_span_Reader (fun a56 c57 h58 => ?_)
  refine ld 0 na3 rfl rfl rfl rfl ?_
  refine mv rfl rfl ?_
  refine ad rfl rfl rfl ?_
  refine asg rfl rfl ?_
  refine WL.next ?_
  refine WC.seq ?_
  refine WC.region ?_
  refine mv rfl rfl ?_
  refine mv rfl rfl ?_
  refine mv rfl rfl ?_
  refine ad rfl rfl rfl ?_
  refine nc rfl rfl ?_
  refine fa fl94_1 rfl rfl ?_
  refine st (C' := #[(.slice a56 s37.b_.length c57), (.int .i64 (w64 ((w64 (s37.at_ + x11)) + x10))), (.bool s37.bad_)]) sz3 rfl rfl rfl rfl rfl ?_
  refine WL.next ?_
  refine WC.seq ?_
  refine WC.sub (r := [(0, (.pointer (some ⟨g0, 0, none⟩))), (8, (.int .i64 (w64 (s37.at_ + x11))))]) ?_ ⟨rfl, rfl, trivial⟩
  obtain ⟨y59, e60, h⟩ := bnd h
  obtain ⟨x64, e65, h⟩ := bnd h
  refine WC.drawn mo (nthL [[], [0], [0, 1], [0, 1, 2], [], [], [5], [5, 6], [5, 6, 7], [0, 1, 2, 3, 4, 5, 6, 7, 8], [0, 1, 2, 3, 4, 5, 6, 7, 8, 9], [0, 1, 2, 3, 4, 5, 6, 7, 8, 9, 10]]) (nthL [[], [0], [1], [2], [], [], [5], [6], [7], [3, 4, 8], [9], [10]]) (nthK [.val (.pointer (some ⟨g0, 0, none⟩)), .val (.pointer (some ⟨g0, 0, none⟩)), .val (.pointer (some ⟨g0, 0, none⟩)), .val (.slice a56 s37.b_.length c57), .val (.int .i64 (w64 (s37.at_ + x11))), .val (.pointer (some ⟨g0, 0, none⟩)), .val (.pointer (some ⟨g0, 0, none⟩)), .val (.pointer (some ⟨g0, 1, none⟩)), .val (.int .i64 (w64 ((w64 (s37.at_ + x11)) + x10))), .imm y59, .any, .any]) [⟨none, none, [3, 8], [], fun _ => bl g0 #[(.slice a56 s37.b_.length c57), (.int .i64 (w64 ((w64 (s37.at_ + x11)) + x10))), (.bool s37.bad_)] 94⟩, ⟨(some 10), (some 11), [], [10], fun l => OV 5 (vget l 0) x64⟩, ⟨(some 11), none, [], [11], fun l => OV 5 (vget l 0) x64⟩] (by kernel_rfl) (by kernel_rfl) (by kernel_rfl) (H := G) rfl ⟨?_, ?_, ?_, ?_, ?_, ?_, ?_, ?_, ?_, ?_, ?_, ?_, trivial⟩ ?_
  · intro Q ρ I1 H hI1 hk hpost
    have hc := Mem.le.refl I1
    refine mv rfl rfl ?_
    refine WL.nil ?_
    exact hpost _ _ hc rfl _ (fun _ hd => by obtain rfl := Option.some.inj hd; exact ⟨rfl, trivial⟩)
  · intro Q ρ I1 H hI1 hk hpost
    obtain ⟨_, -⟩ := hk
    have hc := Mem.le.refl I1
    refine nc rfl rfl ?_
    refine WL.nil ?_
    exact hpost _ _ hc rfl _ (fun _ hd => by obtain rfl := Option.some.inj hd; exact ⟨rfl, trivial⟩)
  · intro Q ρ I1 H hI1 hk hpost
    obtain ⟨_, -⟩ := hk
    have hc := Mem.le.refl I1
    refine fa fl94_0 rfl rfl ?_
    refine WL.nil ?_
    exact hpost _ _ hc rfl _ (fun _ hd => by obtain rfl := Option.some.inj hd; exact ⟨rfl, trivial⟩)
  · intro Q ρ I1 H hI1 hk hpost
    obtain ⟨_, -⟩ := hk
    have hc := Mem.le.refl I1
    refine ld 0 na22 rfl rfl rfl rfl ?_
    refine WL.nil ?_
    exact hpost _ _ hc rfl _ (fun _ hd => by obtain rfl := Option.some.inj hd; exact ⟨rfl, trivial⟩)
  · intro Q ρ I1 H hI1 hk hpost
    have hc := Mem.le.refl I1
    refine mv rfl rfl ?_
    refine WL.nil ?_
    exact hpost _ _ hc rfl _ (fun _ hd => by obtain rfl := Option.some.inj hd; exact ⟨rfl, trivial⟩)
  · intro Q ρ I1 H hI1 hk hpost
    have hc := Mem.le.refl I1
    refine mv rfl rfl ?_
    refine WL.nil ?_
    exact hpost _ _ hc rfl _ (fun _ hd => by obtain rfl := Option.some.inj hd; exact ⟨rfl, trivial⟩)
  · intro Q ρ I1 H hI1 hk hpost
    obtain ⟨_, -⟩ := hk
    have hc := Mem.le.refl I1
    refine nc rfl rfl ?_
    refine WL.nil ?_
    exact hpost _ _ hc rfl _ (fun _ hd => by obtain rfl := Option.some.inj hd; exact ⟨rfl, trivial⟩)
  · intro Q ρ I1 H hI1 hk hpost
    obtain ⟨_, -⟩ := hk
    have hc := Mem.le.refl I1
    refine fa fl94_1 rfl rfl ?_
    refine WL.nil ?_
    exact hpost _ _ hc rfl _ (fun _ hd => by obtain rfl := Option.some.inj hd; exact ⟨rfl, trivial⟩)
  · intro Q ρ I1 H hI1 hk hpost
    obtain ⟨_, -⟩ := hk
    have hc := Mem.le.refl I1
    refine ld 0 na3 rfl rfl rfl rfl ?_
    refine WL.nil ?_
    exact hpost _ _ hc rfl _ (fun _ hd => by obtain rfl := Option.some.inj hd; exact ⟨rfl, trivial⟩)
  · intro Q ρ I1 H hI1 hk hpost
    obtain ⟨_, _, _, -⟩ := hk
    replace h58 := h58.up hI1
    have hc := Mem.le.refl I1
    refine cti (kl := .i64) (kh := .i64) et22 rfl h58 (.inr ⟨_, rfl, rfl, rfl⟩) (.inr ⟨_, rfl, rfl, rfl⟩) e60 rfl (fun a61 c62 h63 => ?_)
    refine WL.nil ?_
    exact hpost _ _ hc h63 _ (fun _ hd => by obtain rfl := Option.some.inj hd; exact ⟨rfl, trivial⟩)
  · intro Q ρ I1 H hI1 hk hpost
    obtain ⟨k9, -⟩ := hk
    have hc := Mem.le.refl I1
    refine call cl57 rfl rfl (W57 e65 k9) (fun _ J66 _ hJ67 q68 => ?_)
    have hc := hc.trans hJ67
    replace k9 := k9.up hJ67
    obtain ⟨a69, c70, rfl, rfl⟩ := q68
    refine WL.nil ?_
    exact hpost _ _ hc trivial _ (fun _ hd => by obtain rfl := Option.some.inj hd; exact ⟨rfl, trivial⟩)
  · intro Q ρ I1 H hI1 hk hpost
    obtain ⟨_, -⟩ := hk
    have hc := Mem.le.refl I1
    refine asg rfl rfl ?_
    refine WL.nil ?_
    exact hpost _ _ hc trivial _ (fun _ hd => by obtain rfl := Option.some.inj hd; exact ⟨rfl, trivial⟩)
  rintro ρ J72 hJ73 -
  refine WX.sub (r := [(4, (ρ 11))]) ?_ ⟨rfl, trivial⟩
  refine WX.is (H := bl g0 #[(.slice a56 s37.b_.length c57), (.int .i64 (w64 ((w64 (s37.at_ + x11)) + x10))), (.bool s37.bad_)] 94 :: OV 5 (ρ 11) x64 :: G) rfl ?_
  have hI := hI.trans hJ73
  replace h58 := h58.up hJ73
  refine WX.front 1 ?_
  generalize ρ 11 = uv74 at *; refine WX.hd (fun a75 c76 e => ?_); subst e
  refine WX.then_ ?_
  refine WC.ret ?_
  refine WX.front 1 ?_
  refine WX.shut_span_Reader (⟨s37.b_, w64 ((w64 (s37.at_ + x11)) + x10), s37.bad_⟩ : span_Reader) h58 ?_
  refine WX.front 1 ?_
  cases h
  exact ret1 Try.results75 rfl hI ⟨_, _, rfl, rfl⟩
theorem W49 {I : Mem} {G : List Asn} {p0 : span_Reader} {r : Bool × span_Reader} (h : span_Reader_Bad p0 = some r) {g0 : Nat} :
    CallsS Try.prog 49 #[.pointer (some ⟨g0, 0, none⟩)] I (Ob_span_Reader g0 p0 :: G) (fun v J G' => v = .bool r.1 ∧ Ob_span_Reader g0 (r.2) :: G = G') := by
  refine CallsS.enter Try.func49 rfl Try.ntmps49 rfl (fun w0 => ?_)
  have hI := Mem.le.refl I
  unfold span_Reader_Bad at h
  refine WC.seq ?_
  refine WC.region ?_
  refine asg rfl rfl ?_
  refine WL.next ?_
  refine WC.seq ?_
  refine WC.region ?_
  refine mv rfl rfl ?_
  refine nc rfl rfl ?_
  refine fa fl94_2 rfl rfl ?_
  refine WL.open_span_Reader (fun a2 c3 h4 => ?_)
  refine ld 0 na4 rfl rfl rfl rfl ?_
  refine asg rfl rfl ?_
  refine WL.next ?_
  refine WC.ret ?_
  refine WX.shut_span_Reader (⟨p0.b_, p0.at_, p0.bad_⟩ : span_Reader) h4 ?_
  cases h
  exact ret1 Try.results49 rfl hI ⟨rfl, rfl⟩
theorem W70 {I : Mem} {G : List Asn} {p0 : span_Reader} {r : UInt8 × (List UInt8) × Bool × span_Reader} (h : segment_next p0 = some r) {g0 : Nat} :
    CallsS Try.prog 70 #[.pointer (some ⟨g0, 0, none⟩)] I (Ob_span_Reader g0 p0 :: G) (fun v J G' => ∃ ra1 rc1, v = .tuple #[.int .u8 (r.1.toNat : Int), .slice ra1 r.2.1.length rc1, .bool r.2.2.1] ∧ IV J (.slice ra1 r.2.1.length rc1) r.2.1 ∧ Ob_span_Reader g0 (r.2.2.2) :: G = G') := by
  refine CallsS.enter Try.func70 rfl Try.ntmps70 rfl (fun w0 => ?_)
  have hI := Mem.le.refl I
  unfold segment_next at h
  refine WC.seq ?_
  refine WC.region ?_
  refine asg rfl rfl ?_
  refine asg rfl rfl ?_
  refine asg rfl rfl ?_
  refine WL.next ?_
  refine WC.seq ?_
  refine WC.region ?_
  refine mv rfl rfl ?_
  obtain ⟨⟨x2, s3⟩, e4, h⟩ := bnd h
  refine call cl75 rfl rfl (W75 e4) (fun _ J5 _ hJ6 q7 => ?_)
  have hI := hI.trans hJ6
  obtain ⟨a8, c9, rfl, rfl⟩ := q7
  refine WL.freeze (fun J11 hJ12 h13 => ?_)
  have hI := hI.trans hJ12
  obtain ⟨⟨x14, x15⟩, e16, h⟩ := bnd h
  refine call cl18 rfl rfl (W18 e16 h13) (fun _ J17 _ hJ18 q19 => ?_)
  have hI := hI.trans hJ18
  replace h13 := h13.up hJ18
  obtain ⟨a20, c21, rfl, rfl⟩ := q19
  refine mv rfl rfl ?_
  refine ex rfl rfl rfl ?_
  refine ex rfl rfl rfl ?_
  refine asg rfl rfl ?_
  refine asg rfl rfl ?_
  refine WL.next ?_
  refine WC.seq ?_
  refine WC.seq ?_
  refine WC.region ?_
  refine mv rfl rfl ?_
  refine WL.front 1 ?_
  obtain ⟨⟨x23, s24⟩, e25, h⟩ := bnd h
  refine call cl49 rfl rfl (W49 e25) (fun _ J26 _ hJ27 q28 => ?_)
  have hI := hI.trans hJ27
  obtain ⟨rfl, rfl⟩ := q28
  refine mv rfl rfl ?_
  rcases spl h with ⟨k29, h⟩ | ⟨k29, h⟩
  · skip
    refine WL.rb 15 rfl (bt1 k29) ?_
    refine WL.no rfl rfl rfl rfl ?_
    refine WL.no rfl rfl rfl rfl ?_
    refine pkT rfl rfl rfl ?_
    refine mv rfl rfl ?_
    refine WL.no rfl rfl rfl rfl ?_
    refine WL.no rfl rfl rfl rfl ?_
    refine WL.no rfl rfl rfl rfl ?_
    refine pkT rfl rfl rfl ?_
    refine WL.next ?_
    refine WC.cond rfl (fun _ => ?_) (fun k => by cases k)
    refine WC.seq ?_
    refine WC.region ?_
    refine asg rfl rfl ?_
    refine asg rfl rfl ?_
    refine asg rfl rfl ?_
    refine WL.del 1 ?_
    refine WL.next ?_
    refine WC.ret ?_
    refine WX.then_ret ?_
    cases h
    exact ret3 Try.results70 rfl rfl rfl hI ⟨_, _, rfl, (IV.nil _ : IV _ _ ([] : List UInt8)), rfl⟩
  refine WL.rb 15 rfl (bf1 k29) ?_
  refine WL.on rfl rfl ?_
  refine mv rfl rfl ?_
  refine WL.on rfl rfl ?_
  refine nt rfl rfl ?_
  refine pkF rfl rfl rfl ?_
  refine mv rfl rfl ?_
  rcases spl h with ⟨k30, h⟩ | ⟨k30, h⟩
  · skip
    refine WL.rb 19 rfl (bt1n k30) ?_
    refine WL.on rfl rfl ?_
    refine mv rfl rfl ?_
    refine WL.on rfl rfl ?_
    refine ln et22 rfl (OV.rd 1 rfl) rfl ?_
    refine WL.on rfl rfl ?_
    refine eq rfl rfl rfl ?_
    refine pkF rfl rfl rfl ?_
    refine WL.next ?_
    refine WC.ite rfl h (fun k31 h => ?_) (fun k31 h => ?_)
    · skip
      refine WC.seq ?_
      refine WC.region ?_
      refine asg rfl rfl ?_
      refine asg rfl rfl ?_
      refine asg rfl rfl ?_
      refine WL.del 1 ?_
      refine WL.next ?_
      refine WC.ret ?_
      refine WX.then_ret ?_
      cases h
      exact ret3 Try.results70 rfl rfl rfl hI ⟨_, _, rfl, (IV.nil _ : IV _ _ ([] : List UInt8)), rfl⟩
    refine WC.skip ?_
    refine WX.then_ ?_
    refine WC.seq ?_
    refine WC.front 1 ?_
    refine WC.freeze (fun J32 hJ33 h34 => ?_)
    have hI := hI.trans hJ33
    refine WC.sub (r := [(5, (.slice a20 x14.length c21))]) ?_ ⟨rfl, trivial⟩
    obtain ⟨z35, e36, h⟩ := bnd h
    obtain ⟨y41, e42, h⟩ := bnd h
    refine WC.drawn mo (nthL [[], [0], [0, 1], [], [3], [0, 1, 2], [0, 1, 2, 3, 4, 5], [0, 1, 2, 3, 4, 5, 6]]) (nthL [[], [0], [1], [], [3], [2], [4], []]) (nthK [.val (.slice a20 x14.length c21), .ip z35, .val (.int .u8 (z35.toNat : Int)), .val (.slice a20 x14.length c21), .imm y41, .val (.int .u8 (z35.toNat : Int)), .imm y41, .val (.bool true)]) [] (by kernel_rfl) (by kernel_rfl) (by kernel_rfl) (H := Ob_span_Reader g0 s24 :: G) rfl ⟨?_, ?_, ?_, ?_, ?_, ?_, ?_, ?_, trivial⟩ ?_
    · intro Q ρ I1 H hI1 hk hpost
      have hc := Mem.le.refl I1
      refine mv rfl rfl ?_
      refine WL.nil ?_
      exact hpost _ _ hc rfl _ (fun _ hd => by obtain rfl := Option.some.inj hd; exact ⟨rfl, trivial⟩)
    · intro Q ρ I1 H hI1 hk hpost
      obtain ⟨_, -⟩ := hk
      replace h34 := h34.up hI1
      have hc := Mem.le.refl I1
      refine ixi et22 rfl rfl h34 e36 rfl (fun uv37 h38 => ?_)
      refine WL.nil ?_
      exact hpost _ _ hc h38 _ (fun _ hd => by obtain rfl := Option.some.inj hd; exact ⟨rfl, trivial⟩)
    · intro Q ρ I1 H hI1 hk hpost
      obtain ⟨k1, -⟩ := hk
      have hc := Mem.le.refl I1
      refine ldi (α := UInt8) na5 rfl k1 rfl (fun uv39 h40 => ?_)
      obtain rfl := h40.u8
      refine WL.nil ?_
      exact hpost _ _ hc rfl _ (fun _ hd => by obtain rfl := Option.some.inj hd; exact ⟨rfl, trivial⟩)
    · intro Q ρ I1 H hI1 hk hpost
      have hc := Mem.le.refl I1
      refine mv rfl rfl ?_
      refine WL.nil ?_
      exact hpost _ _ hc rfl _ (fun _ hd => by obtain rfl := Option.some.inj hd; exact ⟨rfl, trivial⟩)
    · intro Q ρ I1 H hI1 hk hpost
      obtain ⟨_, -⟩ := hk
      replace h34 := h34.up hI1
      have hc := Mem.le.refl I1
      refine cti (kl := .i64) (kh := .i64) et22 rfl h34 (.inr ⟨_, rfl, rfl, rfl⟩) (.inl ⟨rfl, rfl, rfl⟩) e42 rfl (fun a43 c44 h45 => ?_)
      refine WL.nil ?_
      exact hpost _ _ hc h45 _ (fun _ hd => by obtain rfl := Option.some.inj hd; exact ⟨rfl, trivial⟩)
    · intro Q ρ I1 H hI1 hk hpost
      obtain ⟨_, -⟩ := hk
      have hc := Mem.le.refl I1
      refine asg rfl rfl ?_
      refine WL.nil ?_
      exact hpost _ _ hc rfl _ (fun _ hd => by obtain rfl := Option.some.inj hd; exact ⟨rfl, trivial⟩)
    · intro Q ρ I1 H hI1 hk hpost
      obtain ⟨k4, -⟩ := hk
      have hc := Mem.le.refl I1
      refine asg rfl rfl ?_
      refine WL.nil ?_
      exact hpost _ _ hc k4 _ (fun _ hd => by obtain rfl := Option.some.inj hd; exact ⟨rfl, trivial⟩)
    · intro Q ρ I1 H hI1 hk hpost
      have hc := Mem.le.refl I1
      refine asg rfl rfl ?_
      refine WL.nil ?_
      exact hpost _ _ hc rfl _ (fun _ hd => by obtain rfl := Option.some.inj hd; exact ⟨rfl, trivial⟩)
    rintro ρ J46 hJ47 ⟨_, _, _, _, _, _, k6, -⟩
    refine WX.sub (r := [(2, (.int .u8 (z35.toNat : Int))), (3, (ρ 6)), (4, (.bool true))]) ?_ ⟨rfl, rfl, rfl, trivial⟩
    refine WX.is (H := Ob_span_Reader g0 s24 :: G) rfl ?_
    have hI := hI.trans hJ47
    have h51 : IV J46 (ρ 6) y41 := k6; clear k6
    generalize ρ 6 = uv48 at *; obtain ⟨a49, c50, rfl⟩ := h51.hd
    refine WX.then_ ?_
    refine WC.ret ?_
    cases h
    exact ret3 Try.results70 rfl rfl rfl hI ⟨_, _, rfl, h51, rfl⟩
  refine WL.rb 19 rfl (bf1n k30) ?_
  refine WL.no rfl rfl rfl rfl ?_
  refine WL.no rfl rfl rfl rfl ?_
  refine WL.no rfl rfl rfl rfl ?_
  refine pkT rfl rfl rfl ?_
  refine WL.next ?_
  refine WC.cond rfl (fun _ => ?_) (fun k => by cases k)
  refine WC.seq ?_
  refine WC.region ?_
  refine asg rfl rfl ?_
  refine asg rfl rfl ?_
  refine asg rfl rfl ?_
  refine WL.del 1 ?_
  refine WL.next ?_
  refine WC.ret ?_
  refine WX.then_ret ?_
  cases h
  exact ret3 Try.results70 rfl rfl rfl hI ⟨_, _, rfl, (IV.nil _ : IV _ _ ([] : List UInt8)), rfl⟩
end Go.Proofs.Ytgobccnphhljcaa
