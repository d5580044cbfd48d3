/- Printed by a program of this session: walks of Go functions. -/
import Derived.Test.YtgobccnphhljcaaKf
import Derived.Test.YtgobccnphhljcaaDf
namespace Go.Proofs.Ytgobccnphhljcaa
set_option linter.unusedVariables false
set_option maxRecDepth 10000
set_option maxHeartbeats 2000000
theorem W43 {I : Mem} {G : List Asn} {p0 : List UInt8} {r : (List UInt8)} (h : haulierkeep_Copy_byte p0 = some r) {u0 : Value} (hp0 : IV I u0 p0) :
    CallsS Try.prog 43 #[u0] I (G) (fun v J G' => ∃ ra0 rc0, v = .slice ra0 r.length rc0 ∧ OV 5 (.slice ra0 r.length rc0) r :: G = G') := by
  refine CallsS.enter Try.func43 rfl Try.ntmps43 rfl (fun w0 => ?_)
  have hI := Mem.le.refl I
  obtain ⟨a0, c0, rfl⟩ := hp0.hd
  unfold haulierkeep_Copy_byte at h
  refine WC.seq ?_
  refine WC.region ?_
  refine asg rfl rfl ?_
  refine WL.next ?_
  refine WC.seq ?_
  refine WC.region ?_
  refine mv rfl rfl ?_
  refine WL.own_nil UInt8 5 ?_
  obtain ⟨k2, h⟩ := chk h
  refine ap et22 rfl rfl (hp0.rd) k2 rfl (fun a3 c4 => ?_)
  refine asg rfl rfl ?_
  refine WL.next ?_
  refine WC.ret ?_
  cases h
  exact ret1 Try.results43 rfl hI ⟨_, _, rfl, rfl⟩
theorem W15 {I : Mem} {G : List Asn} {p0 : List UInt8} {p1 : Int} {r : (List UInt8)} (h : haulierkeep_Cut_byte p0 p1 = some r) {u0 : Value} (hp0 : IV I u0 p0) :
    CallsS Try.prog 15 #[u0, .int .i64 p1] I (G) (fun v J G' => ∃ ra0 rc0, v = .slice ra0 r.length rc0 ∧ OV 5 (.slice ra0 r.length rc0) r :: G = G') := by
  refine CallsS.enter Try.func15 rfl Try.ntmps15 rfl (fun w0 => ?_)
  have hI := Mem.le.refl I
  obtain ⟨a0, c0, rfl⟩ := hp0.hd
  unfold haulierkeep_Cut_byte at h
  refine WC.seq ?_
  refine WC.region ?_
  refine asg rfl rfl ?_
  refine WL.next ?_
  refine WC.seq ?_
  refine WC.region ?_
  refine mv rfl rfl ?_
  refine mv rfl rfl ?_
  refine ln et22 rfl (hp0.rd) rfl ?_
  refine mv rfl rfl ?_
  refine mi rfl rfl rfl ?_
  obtain ⟨x1, e2, h⟩ := bnd h
  refine WL.re (congrArg (Value.int .i64) (Option.some.inj e2)) ?_
  obtain ⟨y3, e4, h⟩ := bnd h
  refine cti (kl := .i64) (kh := .i64) et22 rfl hp0 (.inl ⟨rfl, rfl, rfl⟩) (.inr ⟨_, rfl, rfl, rfl⟩) e4 rfl (fun a5 c6 h7 => ?_)
  obtain ⟨x8, e9, h⟩ := bnd h
  refine call cl43 rfl rfl (W43 e9 h7) (fun _ J10 _ hJ11 q12 => ?_)
  have hI := hI.trans hJ11
  replace hp0 := hp0.up hJ11; replace h7 := h7.up hJ11
  obtain ⟨a13, c14, rfl, rfl⟩ := q12
  refine asg rfl rfl ?_
  refine WL.next ?_
  refine WC.ret ?_
  cases h
  exact ret1 Try.results15 rfl hI ⟨_, _, rfl, rfl⟩
theorem W17 {I : Mem} {G : List Asn} {p0 : List UInt8} {p1 : List UInt8} {r : Bool} (h : haulierkeep_Same_byte p0 p1 = some r) {u0 : Value} (hp0 : IV I u0 p0) {u1 : Value} (hp1 : IV I u1 p1) :
    CallsS Try.prog 17 #[u0, u1] I (G) (fun v J G' => v = .bool r ∧ G = G') := by
  refine CallsS.enter Try.func17 rfl Try.ntmps17 rfl (fun w0 => ?_)
  have hI := Mem.le.refl I
  obtain ⟨a0, c0, rfl⟩ := hp0.hd
  obtain ⟨a1, c1, rfl⟩ := hp1.hd
  unfold haulierkeep_Same_byte at h
  refine WC.seq ?_
  refine WC.region ?_
  refine asg rfl rfl ?_
  refine WL.next ?_
  refine WC.seq ?_
  refine WC.seq ?_
  refine WC.region ?_
  refine mv rfl rfl ?_
  refine ln et22 rfl (hp0.rd) rfl ?_
  refine mv rfl rfl ?_
  refine ln et22 rfl (hp1.rd) rfl ?_
  refine ne rfl rfl rfl ?_
  refine WL.next ?_
  refine WC.ite rfl h (fun k1 h => ?_) (fun k1 h => ?_)
  · skip
    refine WC.seq ?_
    refine WC.region ?_
    refine asg rfl rfl ?_
    refine WL.next ?_
    refine WC.ret ?_
    refine WX.then_ret ?_
    cases h
    exact ret1 Try.results17 rfl hI ⟨rfl, rfl⟩
  refine WC.skip ?_
  refine WX.then_ ?_
  refine WC.seq ?_
  refine WC.seq ?_
  refine WC.region ?_
  refine asg rfl rfl ?_
  refine WL.next ?_
  refine WC.block ?_
  refine WC.loop (σ := Int) (fun k x2 => haulierkeep_Same_byte_l0 p0 p1 k x2) _ (fun x2 => [(0, (.slice a0 p0.length c0)), (1, (.slice a1 p1.length c1)), (5, (.int .i64 x2))]) (fun x2 => G) (fun x2 J => True) (fun x2 => rfl) bigN 0 h trivial ⟨rfl, rfl, rfl, trivial⟩ rfl ?_
  rintro k0 ih0 x2 J20 hJ21 - h
  change haulierkeep_Same_byte_l0 p0 p1 (k0 + 1) x2 = _ at h
  rw [haulierkeep_Same_byte_l0] at h
  have hI := hI.trans hJ21
  replace hp0 := hp0.up hJ21; replace hp1 := hp1.up hJ21
  have ll0 := hJ21
  refine WC.seq ?_
  refine WC.seq ?_
  refine WC.region ?_
  refine mv rfl rfl ?_
  refine mv rfl rfl ?_
  refine ln et22 rfl (hp0.rd) rfl ?_
  refine lt rfl rfl rfl ?_
  refine WL.next ?_
  refine WC.ite rfl h (fun k22 h => ?_) (fun k22 h => ?_)
  · skip
    refine WC.skip ?_
    refine WX.then_ ?_
    refine WC.seq ?_
    refine WC.block ?_
    refine WC.seq ?_
    refine WC.sub (r := [(0, (.slice a0 p0.length c0)), (1, (.slice a1 p1.length c1)), (5, (.int .i64 x2))]) ?_ ⟨rfl, rfl, rfl, trivial⟩
    obtain ⟨z23, e24, h⟩ := bnd h
    obtain ⟨z29, e30, h⟩ := bnd h
    refine WC.drawn mo (nthL [[], [], [0, 1], [0, 1, 2], [], [], [4, 5], [4, 5, 6], [0, 1, 2, 3, 4, 5, 6, 7]]) (nthL [[], [], [0, 1], [2], [], [], [4, 5], [6], [3, 7]]) (nthK [.val (.slice a0 p0.length c0), .val (.int .i64 x2), .ip z23, .val (.int .u8 (z23.toNat : Int)), .val (.slice a1 p1.length c1), .val (.int .i64 x2), .ip z29, .val (.int .u8 (z29.toNat : Int)), .val (.bool (decide ((z23.toNat : Int) ≠ (z29.toNat : Int))))]) [] (by kernel_rfl) (by kernel_rfl) (by kernel_rfl) (H := G) rfl ⟨?_, ?_, ?_, ?_, ?_, ?_, ?_, ?_, ?_, trivial⟩ ?_
    · intro Q ρ I1 H hI1 hk hpost
      have hc := Mem.le.refl I1
      refine mv rfl rfl ?_
      refine WL.nil ?_
      exact hpost _ _ hc rfl _ (fun _ hd => by obtain rfl := Option.some.inj hd; exact ⟨rfl, trivial⟩)
    · intro Q ρ I1 H hI1 hk hpost
      have hc := Mem.le.refl I1
      refine mv rfl rfl ?_
      refine WL.nil ?_
      exact hpost _ _ hc rfl _ (fun _ hd => by obtain rfl := Option.some.inj hd; exact ⟨rfl, trivial⟩)
    · intro Q ρ I1 H hI1 hk hpost
      obtain ⟨_, _, -⟩ := hk
      replace hp0 := hp0.up hI1
      have hc := Mem.le.refl I1
      refine ixi et22 rfl rfl hp0 e24 rfl (fun uv25 h26 => ?_)
      refine WL.nil ?_
      exact hpost _ _ hc h26 _ (fun _ hd => by obtain rfl := Option.some.inj hd; exact ⟨rfl, trivial⟩)
    · intro Q ρ I1 H hI1 hk hpost
      obtain ⟨k2, -⟩ := hk
      have hc := Mem.le.refl I1
      refine ldi (α := UInt8) na5 rfl k2 rfl (fun uv27 h28 => ?_)
      obtain rfl := h28.u8
      refine WL.nil ?_
      exact hpost _ _ hc rfl _ (fun _ hd => by obtain rfl := Option.some.inj hd; exact ⟨rfl, trivial⟩)
    · intro Q ρ I1 H hI1 hk hpost
      have hc := Mem.le.refl I1
      refine mv rfl rfl ?_
      refine WL.nil ?_
      exact hpost _ _ hc rfl _ (fun _ hd => by obtain rfl := Option.some.inj hd; exact ⟨rfl, trivial⟩)
    · intro Q ρ I1 H hI1 hk hpost
      have hc := Mem.le.refl I1
      refine mv rfl rfl ?_
      refine WL.nil ?_
      exact hpost _ _ hc rfl _ (fun _ hd => by obtain rfl := Option.some.inj hd; exact ⟨rfl, trivial⟩)
    · intro Q ρ I1 H hI1 hk hpost
      obtain ⟨_, _, -⟩ := hk
      replace hp1 := hp1.up hI1
      have hc := Mem.le.refl I1
      refine ixi et22 rfl rfl hp1 e30 rfl (fun uv31 h32 => ?_)
      refine WL.nil ?_
      exact hpost _ _ hc h32 _ (fun _ hd => by obtain rfl := Option.some.inj hd; exact ⟨rfl, trivial⟩)
    · intro Q ρ I1 H hI1 hk hpost
      obtain ⟨k6, -⟩ := hk
      have hc := Mem.le.refl I1
      refine ldi (α := UInt8) na5 rfl k6 rfl (fun uv33 h34 => ?_)
      obtain rfl := h34.u8
      refine WL.nil ?_
      exact hpost _ _ hc rfl _ (fun _ hd => by obtain rfl := Option.some.inj hd; exact ⟨rfl, trivial⟩)
    · intro Q ρ I1 H hI1 hk hpost
      obtain ⟨_, _, -⟩ := hk
      have hc := Mem.le.refl I1
      refine ne rfl rfl rfl ?_
      refine WL.nil ?_
      exact hpost _ _ hc rfl _ (fun _ hd => by obtain rfl := Option.some.inj hd; exact ⟨rfl, trivial⟩)
    rintro ρ J35 hJ36 -
    refine WX.sub (r := [(0, (.slice a0 p0.length c0)), (1, (.slice a1 p1.length c1)), (5, (.int .i64 x2)), (25, (.bool (decide ((z23.toNat : Int) ≠ (z29.toNat : Int)))))]) ?_ ⟨rfl, rfl, rfl, rfl, trivial⟩
    refine WX.is (H := G) rfl ?_
    have hI := hI.trans hJ36
    have ll0 := ll0.trans hJ36
    replace hp0 := hp0.up hJ36; replace hp1 := hp1.up hJ36
    refine WX.then_ ?_
    refine WC.ite rfl h (fun k37 h => ?_) (fun k37 h => ?_)
    · skip
      refine WC.seq ?_
      refine WC.region ?_
      refine asg rfl rfl ?_
      refine WL.next ?_
      refine WC.ret ?_
      refine WX.block_ret ?_
      refine WX.then_ret ?_
      refine WX.then_ret ?_
      refine WX.block_ret ?_
      refine WX.then_ret ?_
      cases h
      exact ret1 Try.results17 rfl hI ⟨rfl, rfl⟩
    refine WC.skip ?_
    refine WX.block_normal ?_
    refine WX.then_ ?_
    refine WC.region ?_
    refine mv rfl rfl ?_
    refine ad rfl rfl rfl ?_
    refine asg rfl rfl ?_
    refine WL.nil ?_
    refine WX.round ?_
    exact (ih0 (w64 (x2 + 1)) _ ll0 trivial h).sub ⟨rfl, rfl, rfl, trivial⟩
  refine WC.exit ?_
  refine WX.then_exit ?_
  refine WX.then_exit ?_
  refine WX.block_here ?_
  refine WX.then_ ?_
  refine WC.seq ?_
  refine WC.region ?_
  refine asg rfl rfl ?_
  refine WL.next ?_
  refine WC.ret ?_
  cases h
  exact ret1 Try.results17 rfl hI ⟨rfl, rfl⟩
theorem W19 {I : Mem} {G : List Asn} {p0 : Int} {p1 : Int} {r : Int} (h : haulierkeep_Within p0 p1 = some r) :
    CallsS Try.prog 19 #[.int .i64 p0, .int .i64 p1] I (G) (fun v J G' => v = .int .i64 r ∧ G = G') := by
  refine CallsS.enter Try.func19 rfl Try.ntmps19 rfl (fun w0 => ?_)
  have hI := Mem.le.refl I
  unfold haulierkeep_Within at h
  refine WC.seq ?_
  refine WC.region ?_
  refine asg rfl rfl ?_
  refine WL.next ?_
  refine WC.seq ?_
  refine WC.seq ?_
  refine WC.region ?_
  refine mv rfl rfl ?_
  refine lt rfl rfl rfl ?_
  refine WL.next ?_
  refine WC.ite rfl h (fun k1 h => ?_) (fun k1 h => ?_)
  · skip
    refine WC.seq ?_
    refine WC.region ?_
    refine asg rfl rfl ?_
    refine WL.next ?_
    refine WC.ret ?_
    refine WX.then_ret ?_
    cases h
    exact ret1 Try.results19 rfl hI ⟨rfl, rfl⟩
  refine WC.skip ?_
  refine WX.then_ ?_
  refine WC.seq ?_
  refine WC.region ?_
  refine mv rfl rfl ?_
  refine mv rfl rfl ?_
  obtain ⟨k2, h⟩ := chk h
  refine re k2 rfl rfl rfl ?_
  refine asg rfl rfl ?_
  refine WL.next ?_
  refine WC.seq ?_
  refine WC.seq ?_
  refine WC.region ?_
  refine mv rfl rfl ?_
  refine lt rfl rfl rfl ?_
  refine WL.next ?_
  refine WC.ite rfl h (fun k3 h => ?_) (fun k3 h => ?_)
  · skip
    refine WC.region ?_
    refine mv rfl rfl ?_
    refine mv rfl rfl ?_
    refine ad rfl rfl rfl ?_
    refine asg rfl rfl ?_
    refine WL.next ?_
    refine WC.seq ?_
    refine WC.region ?_
    refine mv rfl rfl ?_
    refine asg rfl rfl ?_
    refine WL.next ?_
    refine WC.ret ?_
    cases h
    exact ret1 Try.results19 rfl hI ⟨rfl, rfl⟩
  refine WC.skip ?_
  refine WX.then_ ?_
  refine WC.seq ?_
  refine WC.region ?_
  refine mv rfl rfl ?_
  refine asg rfl rfl ?_
  refine WL.next ?_
  refine WC.ret ?_
  cases h
  exact ret1 Try.results19 rfl hI ⟨rfl, rfl⟩
theorem W63 {I : Mem} {G : List Asn} {p0 : Int} {p1 : Int} {r : Bool} (h : packet_upto p0 p1 = some r) :
    CallsS Try.prog 63 #[.int .i64 p0, .int .i64 p1] I (G) (fun v J G' => v = .bool r ∧ G = G') := by
  refine CallsS.enter Try.func63 rfl Try.ntmps63 rfl (fun w0 => ?_)
  have hI := Mem.le.refl I
  unfold packet_upto at h
  refine WC.seq ?_
  refine WC.region ?_
  refine asg rfl rfl ?_
  refine WL.next ?_
  refine WC.seq ?_
  refine WC.region ?_
  refine mv rfl rfl ?_
  refine ge rfl rfl rfl ?_
  refine mv rfl rfl ?_
  rcases spl h with ⟨k1, h⟩ | ⟨k1, h⟩
  · skip
    refine WL.rb 7 rfl (bT k1) ?_
    refine WL.on rfl rfl ?_
    refine mv rfl rfl ?_
    refine WL.on rfl rfl ?_
    refine mv rfl rfl ?_
    refine WL.on rfl rfl ?_
    refine le rfl rfl rfl ?_
    refine pkT rfl rfl rfl ?_
    refine asg rfl rfl ?_
    refine WL.next ?_
    refine WC.ret ?_
    cases h
    exact ret1 Try.results63 rfl hI ⟨rfl, rfl⟩
  refine WL.rb 7 rfl (bF k1) ?_
  refine WL.no rfl rfl rfl rfl ?_
  refine WL.no rfl rfl rfl rfl ?_
  refine WL.no rfl rfl rfl rfl ?_
  refine pkF rfl rfl rfl ?_
  refine asg rfl rfl ?_
  refine WL.next ?_
  refine WC.ret ?_
  cases h
  exact ret1 Try.results63 rfl hI ⟨rfl, rfl⟩
theorem W62 {I : Mem} {G : List Asn} {p0 : api_Packet} {r : Bool} (h : packet_fields p0 = some r) {u0_5 : Value} (hp0_5 : IV I u0_5 p0.Data) :
    CallsS Try.prog 62 #[.agg #[(.int .i64 p0.Kind), (.int .i64 p0.Path), (.int .i64 p0.Number), (.int .i64 p0.Of), (.int .i64 p0.From), u0_5, (.bool p0.Fin), (.int .i64 p0.Seen), (.int .i64 p0.Limit)]] I (G) (fun v J G' => v = .bool r ∧ G = G') := by
  refine CallsS.enter Try.func62 rfl Try.ntmps62 rfl (fun w0 => ?_)
  have hI := Mem.le.refl I
  obtain ⟨a0_5, c0_5, rfl⟩ := hp0_5.hd
  unfold packet_fields at h
  refine WC.seq ?_
  refine WC.region ?_
  refine bx rfl rfl rfl (fun g1 => ?_)
  refine asg rfl rfl ?_
  refine WL.next ?_
  refine WC.seq ?_
  refine WC.seq ?_
  refine WC.region ?_
  refine fa fl41_0 rfl rfl ?_
  refine ld 0 na3 rfl rfl rfl rfl ?_
  refine WL.next ?_
  refine WC.block ?_
  refine WC.seq ?_
  refine WC.region ?_
  refine eq rfl rfl rfl ?_
  refine asg rfl rfl ?_
  refine WL.next ?_
  refine WC.ite rfl h (fun k3 h => ?_) (fun k3 h => ?_)
  · skip
    refine WC.seq ?_
    refine WC.region ?_
    refine fa fl41_3 rfl rfl ?_
    refine ld 0 na3 rfl rfl rfl rfl ?_
    obtain ⟨x4, e5, h⟩ := bnd h
    refine call cl63 rfl rfl (W63 e5) (fun _ J6 _ hJ7 q8 => ?_)
    have hI := hI.trans hJ7
    replace hp0_5 := hp0_5.up hJ7
    obtain ⟨rfl, rfl⟩ := q8
    refine asg rfl rfl ?_
    refine WL.del 0 ?_
    refine WL.next ?_
    refine WC.ret ?_
    refine WX.block_ret ?_
    refine WX.then_ret ?_
    cases h
    exact ret1 Try.results62 rfl hI ⟨rfl, rfl⟩
  refine WC.seq ?_
  refine WC.region ?_
  refine eq rfl rfl rfl ?_
  refine asg rfl rfl ?_
  refine WL.next ?_
  refine WC.ite rfl h (fun k9 h => ?_) (fun k9 h => ?_)
  · skip
    refine WC.seq ?_
    refine WC.region ?_
    refine fa fl41_4 rfl rfl ?_
    refine ld 0 na3 rfl rfl rfl rfl ?_
    obtain ⟨x10, e11, h⟩ := bnd h
    refine call cl63 rfl rfl (W63 e11) (fun _ J12 _ hJ13 q14 => ?_)
    have hI := hI.trans hJ13
    replace hp0_5 := hp0_5.up hJ13
    obtain ⟨rfl, rfl⟩ := q14
    refine mv rfl rfl ?_
    rcases spl h with ⟨k15, h⟩ | ⟨k15, h⟩
    · skip
      refine WL.rb 15 rfl (bt1 k15) ?_
      refine WL.on rfl rfl ?_
      refine fa fl41_5 rfl rfl ?_
      refine WL.on rfl rfl ?_
      refine ld 0 na22 rfl rfl rfl rfl ?_
      refine WL.on rfl rfl ?_
      refine ln et22 rfl (hp0_5.rd) rfl ?_
      refine WL.on rfl rfl ?_
      refine le rfl rfl rfl ?_
      refine pkT rfl rfl rfl ?_
      refine mv rfl rfl ?_
      rcases spl h with ⟨k16, h⟩ | ⟨k16, h⟩
      · skip
        refine WL.rb 21 rfl (bT k16) ?_
        refine WL.on rfl rfl ?_
        refine fa fl41_5 rfl rfl ?_
        refine WL.on rfl rfl ?_
        refine ld 0 na22 rfl rfl rfl rfl ?_
        refine WL.on rfl rfl ?_
        refine ln et22 rfl (hp0_5.rd) rfl ?_
        refine WL.on rfl rfl ?_
        refine fa fl41_4 rfl rfl ?_
        refine WL.on rfl rfl ?_
        refine ld 0 na3 rfl rfl rfl rfl ?_
        refine WL.on rfl rfl ?_
        refine su rfl rfl rfl ?_
        refine WL.on rfl rfl ?_
        refine le rfl rfl rfl ?_
        refine pkT rfl rfl rfl ?_
        refine asg rfl rfl ?_
        refine WL.del 0 ?_
        refine WL.next ?_
        refine WC.ret ?_
        refine WX.block_ret ?_
        refine WX.then_ret ?_
        cases h
        exact ret1 Try.results62 rfl hI ⟨rfl, rfl⟩
      refine WL.rb 21 rfl (bF k16) ?_
      refine WL.no rfl rfl rfl rfl ?_
      refine WL.no rfl rfl rfl rfl ?_
      refine WL.no rfl rfl rfl rfl ?_
      refine WL.no rfl rfl rfl rfl ?_
      refine WL.no rfl rfl rfl rfl ?_
      refine WL.no rfl rfl rfl rfl ?_
      refine WL.no rfl rfl rfl rfl ?_
      refine pkF rfl rfl rfl ?_
      refine asg rfl rfl ?_
      refine WL.del 0 ?_
      refine WL.next ?_
      refine WC.ret ?_
      refine WX.block_ret ?_
      refine WX.then_ret ?_
      cases h
      exact ret1 Try.results62 rfl hI ⟨rfl, rfl⟩
    refine WL.rb 15 rfl (bf1 k15) ?_
    refine WL.no rfl rfl rfl rfl ?_
    refine WL.no rfl rfl rfl rfl ?_
    refine WL.no rfl rfl rfl rfl ?_
    refine WL.no rfl rfl rfl rfl ?_
    refine pkF rfl rfl rfl ?_
    refine mv rfl rfl ?_
    refine WL.no rfl rfl rfl rfl ?_
    refine WL.no rfl rfl rfl rfl ?_
    refine WL.no rfl rfl rfl rfl ?_
    refine WL.no rfl rfl rfl rfl ?_
    refine WL.no rfl rfl rfl rfl ?_
    refine WL.no rfl rfl rfl rfl ?_
    refine WL.no rfl rfl rfl rfl ?_
    refine pkF rfl rfl rfl ?_
    refine asg rfl rfl ?_
    refine WL.del 0 ?_
    refine WL.next ?_
    refine WC.ret ?_
    refine WX.block_ret ?_
    refine WX.then_ret ?_
    cases h
    exact ret1 Try.results62 rfl hI ⟨rfl, rfl⟩
  refine WC.seq ?_
  refine WC.region ?_
  refine eq rfl rfl rfl ?_
  refine asg rfl rfl ?_
  refine WL.next ?_
  refine WC.ite rfl h (fun k17 h => ?_) (fun k17 h => ?_)
  · skip
    refine WC.seq ?_
    refine WC.region ?_
    refine fa fl41_3 rfl rfl ?_
    refine ld 0 na3 rfl rfl rfl rfl ?_
    obtain ⟨x18, e19, h⟩ := bnd h
    refine call cl63 rfl rfl (W63 e19) (fun _ J20 _ hJ21 q22 => ?_)
    have hI := hI.trans hJ21
    replace hp0_5 := hp0_5.up hJ21
    obtain ⟨rfl, rfl⟩ := q22
    refine mv rfl rfl ?_
    rcases spl h with ⟨k23, h⟩ | ⟨k23, h⟩
    · skip
      refine WL.rb 35 rfl (bt1 k23) ?_
      refine WL.on rfl rfl ?_
      refine fa fl41_7 rfl rfl ?_
      refine WL.on rfl rfl ?_
      refine ld 0 na3 rfl rfl rfl rfl ?_
      refine WL.on rfl rfl ?_
      obtain ⟨x24, e25, h⟩ := bnd h
      refine call cl63 rfl rfl (W63 e25) (fun _ J26 _ hJ27 q28 => ?_)
      have hI := hI.trans hJ27
      replace hp0_5 := hp0_5.up hJ27
      obtain ⟨rfl, rfl⟩ := q28
      refine pkT rfl rfl rfl ?_
      refine mv rfl rfl ?_
      rcases spl h with ⟨k29, h⟩ | ⟨k29, h⟩
      · skip
        refine WL.rb 40 rfl (bt1 k29) ?_
        refine WL.on rfl rfl ?_
        refine fa fl41_8 rfl rfl ?_
        refine WL.on rfl rfl ?_
        refine ld 0 na3 rfl rfl rfl rfl ?_
        refine WL.on rfl rfl ?_
        obtain ⟨x30, e31, h⟩ := bnd h
        refine call cl63 rfl rfl (W63 e31) (fun _ J32 _ hJ33 q34 => ?_)
        have hI := hI.trans hJ33
        replace hp0_5 := hp0_5.up hJ33
        obtain ⟨rfl, rfl⟩ := q34
        refine pkT rfl rfl rfl ?_
        refine asg rfl rfl ?_
        refine WL.del 0 ?_
        refine WL.next ?_
        refine WC.ret ?_
        refine WX.block_ret ?_
        refine WX.then_ret ?_
        cases h
        exact ret1 Try.results62 rfl hI ⟨rfl, rfl⟩
      refine WL.rb 40 rfl (bf1 k29) ?_
      refine WL.no rfl rfl rfl rfl ?_
      refine WL.no rfl rfl rfl rfl ?_
      refine WL.no rfl rfl rfl rfl ?_
      refine pkF rfl rfl rfl ?_
      refine asg rfl rfl ?_
      refine WL.del 0 ?_
      refine WL.next ?_
      refine WC.ret ?_
      refine WX.block_ret ?_
      refine WX.then_ret ?_
      cases h
      exact ret1 Try.results62 rfl hI ⟨rfl, rfl⟩
    refine WL.rb 35 rfl (bf1 k23) ?_
    refine WL.no rfl rfl rfl rfl ?_
    refine WL.no rfl rfl rfl rfl ?_
    refine WL.no rfl rfl rfl rfl ?_
    refine pkF rfl rfl rfl ?_
    refine mv rfl rfl ?_
    refine WL.no rfl rfl rfl rfl ?_
    refine WL.no rfl rfl rfl rfl ?_
    refine WL.no rfl rfl rfl rfl ?_
    refine pkF rfl rfl rfl ?_
    refine asg rfl rfl ?_
    refine WL.del 0 ?_
    refine WL.next ?_
    refine WC.ret ?_
    refine WX.block_ret ?_
    refine WX.then_ret ?_
    cases h
    exact ret1 Try.results62 rfl hI ⟨rfl, rfl⟩
  refine WC.skip ?_
  refine WX.block_normal ?_
  refine WX.then_ ?_
  refine WC.seq ?_
  refine WC.region ?_
  refine fa fl41_0 rfl rfl ?_
  refine ld 0 na3 rfl rfl rfl rfl ?_
  refine eq rfl rfl rfl ?_
  refine asg rfl rfl ?_
  refine WL.del 0 ?_
  refine WL.next ?_
  refine WC.ret ?_
  cases h
  exact ret1 Try.results62 rfl hI ⟨rfl, rfl⟩
theorem W64 {I : Mem} {G : List Asn} {p0 : api_Packet} {r : api_Packet} (h : packet_bare p0 = some r) {u0_5 : Value} (hp0_5 : IV I u0_5 p0.Data) :
    CallsS Try.prog 64 #[.agg #[(.int .i64 p0.Kind), (.int .i64 p0.Path), (.int .i64 p0.Number), (.int .i64 p0.Of), (.int .i64 p0.From), u0_5, (.bool p0.Fin), (.int .i64 p0.Seen), (.int .i64 p0.Limit)]] I (G) (fun v J G' => ∃ ra0_5 rc0_5, v = .agg #[.int .i64 r.Kind, .int .i64 r.Path, .int .i64 r.Number, .int .i64 r.Of, .int .i64 r.From, .slice ra0_5 r.Data.length rc0_5, .bool r.Fin, .int .i64 r.Seen, .int .i64 r.Limit] ∧ IV J (.slice ra0_5 r.Data.length rc0_5) r.Data ∧ G = G') := by
  refine CallsS.enter Try.func64 rfl Try.ntmps64 rfl (fun w0 => ?_)
  have hI := Mem.le.refl I
  obtain ⟨a0_5, c0_5, rfl⟩ := hp0_5.hd
  unfold packet_bare at h
  refine WC.seq ?_
  refine WC.region ?_
  refine bx rfl rfl rfl (fun g1 => ?_)
  refine al Try.zeroValue41 rfl (fun g3 => ?_)
  refine WL.next ?_
  refine WC.seq ?_
  refine WC.region ?_
  refine fa fl41_0 rfl rfl ?_
  refine ld 1 na3 rfl rfl rfl rfl ?_
  refine fa fl41_1 rfl rfl ?_
  refine ld 1 na3 rfl rfl rfl rfl ?_
  refine fa fl41_2 rfl rfl ?_
  refine ld 1 na3 rfl rfl rfl rfl ?_
  refine bu bt41 rfl rfl rfl ?_
  refine al Try.zeroValue41 rfl (fun g5 => ?_)
  refine sta (C' := #[(.int .i64 p0.Kind), (.int .i64 p0.Path), (.int .i64 p0.Number), (.int .i64 0), (.int .i64 0), (.slice none 0 0), (.bool false), (.int .i64 0), (.int .i64 0)]) sz41 rfl rfl rfl rfl rfl rfl ?_
  refine WL.next ?_
  refine WC.seq ?_
  refine WC.seq ?_
  refine WC.region ?_
  refine fa fl41_0 rfl rfl ?_
  refine ld 2 na3 rfl rfl rfl rfl ?_
  refine WL.next ?_
  refine WC.block ?_
  refine WC.seq ?_
  refine WC.region ?_
  refine eq rfl rfl rfl ?_
  refine asg rfl rfl ?_
  refine WL.next ?_
  refine WC.ite rfl h (fun k7 h => ?_) (fun k7 h => ?_)
  · skip
    refine WC.region ?_
    refine fa fl41_3 rfl rfl ?_
    refine ld 2 na3 rfl rfl rfl rfl ?_
    refine fa fl41_3 rfl rfl ?_
    refine st (C' := #[(.int .i64 p0.Kind), (.int .i64 p0.Path), (.int .i64 p0.Number), (.int .i64 p0.Of), (.int .i64 0), (.slice none 0 0), (.bool false), (.int .i64 0), (.int .i64 0)]) sz3 rfl rfl rfl rfl rfl ?_
    refine WL.del 2 ?_
    refine WL.nil ?_
    refine WX.block_normal ?_
    refine WX.then_ ?_
    refine WC.seq ?_
    refine WC.region ?_
    refine lda 0 ya41 rfl rfl rfl rfl rfl ?_
    refine WL.front 1 ?_
    refine sta (C' := #[(.int .i64 p0.Kind), (.int .i64 p0.Path), (.int .i64 p0.Number), (.int .i64 p0.Of), (.int .i64 0), (.slice none 0 0), (.bool false), (.int .i64 0), (.int .i64 0)]) sz41 rfl rfl rfl rfl rfl rfl ?_
    refine WL.del 1 ?_
    refine WL.next ?_
    refine WC.ret ?_
    cases h
    exact retC1x Try.results64 (fun a w ha hw => RC.cellA ha hw 0 rfl ya41 rfl rfl) (fun w hw => hw |>.del 0) hI ⟨_, _, rfl, (IV.nil _ : IV _ _ ([] : List UInt8)), rfl⟩
  refine WC.seq ?_
  refine WC.region ?_
  refine eq rfl rfl rfl ?_
  refine asg rfl rfl ?_
  refine WL.next ?_
  refine WC.ite rfl h (fun k8 h => ?_) (fun k8 h => ?_)
  · skip
    refine WC.sub (r := [(1, (.pointer (some ⟨g1, 0, none⟩))), (2, (.pointer (some ⟨g3, 0, none⟩))), (3, (.pointer (some ⟨g5, 0, none⟩)))]) ?_ ⟨rfl, rfl, rfl, trivial⟩
    refine WC.front 2 ?_
    refine WC.drawn mo (nthL [[], [0], [], [2], [], [4], [0, 1], [0, 1, 6], [0, 1, 2, 3, 6, 7], [0, 1, 2, 3, 6, 7, 8], [0, 1, 2, 3, 4, 5, 6, 7, 8, 9], [0, 1, 2, 3, 4, 5, 6, 7, 8, 9, 10]]) (nthL [[], [0], [], [2], [], [4], [], [1, 6], [], [3, 8], [], [5, 10]]) (nthK [.val (.pointer (some ⟨g1, 4, none⟩)), .val (.int .i64 p0.From), .val (.pointer (some ⟨g1, 5, none⟩)), .val (.slice a0_5 p0.Data.length c0_5), .val (.pointer (some ⟨g1, 6, none⟩)), .val (.bool p0.Fin), .val (.pointer (some ⟨g5, 4, none⟩)), .any, .val (.pointer (some ⟨g5, 5, none⟩)), .any, .val (.pointer (some ⟨g5, 6, none⟩)), .any]) [⟨none, none, [1, 3, 5], [], fun _ => bl g1 #[(.int .i64 p0.Kind), (.int .i64 p0.Path), (.int .i64 p0.Number), (.int .i64 p0.Of), (.int .i64 p0.From), (.slice a0_5 p0.Data.length c0_5), (.bool p0.Fin), (.int .i64 p0.Seen), (.int .i64 p0.Limit)] 41⟩, ⟨none, (some 7), [], [], fun _ => bl g5 #[(.int .i64 p0.Kind), (.int .i64 p0.Path), (.int .i64 p0.Number), (.int .i64 0), (.int .i64 0), (.slice none 0 0), (.bool false), (.int .i64 0), (.int .i64 0)] 41⟩, ⟨(some 7), (some 9), [], [], fun _ => bl g5 #[(.int .i64 p0.Kind), (.int .i64 p0.Path), (.int .i64 p0.Number), (.int .i64 0), (.int .i64 p0.From), (.slice none 0 0), (.bool false), (.int .i64 0), (.int .i64 0)] 41⟩, ⟨(some 9), (some 11), [], [], fun _ => bl g5 #[(.int .i64 p0.Kind), (.int .i64 p0.Path), (.int .i64 p0.Number), (.int .i64 0), (.int .i64 p0.From), (.slice a0_5 p0.Data.length c0_5), (.bool false), (.int .i64 0), (.int .i64 0)] 41⟩, ⟨(some 11), none, [], [], fun _ => bl g5 #[(.int .i64 p0.Kind), (.int .i64 p0.Path), (.int .i64 p0.Number), (.int .i64 0), (.int .i64 p0.From), (.slice a0_5 p0.Data.length c0_5), (.bool p0.Fin), (.int .i64 0), (.int .i64 0)] 41⟩] (by kernel_rfl) (by kernel_rfl) (by kernel_rfl) (H := bl g3 #[(.int .i64 0), (.int .i64 0), (.int .i64 0), (.int .i64 0), (.int .i64 0), (.slice none 0 0), (.bool false), (.int .i64 0), (.int .i64 0)] 41 :: G) rfl ⟨?_, ?_, ?_, ?_, ?_, ?_, ?_, ?_, ?_, ?_, ?_, ?_, trivial⟩ ?_
    · intro Q ρ I1 H hI1 hk hpost
      have hc := Mem.le.refl I1
      refine fa fl41_4 rfl rfl ?_
      refine WL.nil ?_
      exact hpost _ _ hc rfl _ (fun _ hd => by obtain rfl := Option.some.inj hd; exact ⟨rfl, trivial⟩)
    · intro Q ρ I1 H hI1 hk hpost
      obtain ⟨_, -⟩ := hk
      have hc := Mem.le.refl I1
      refine ld 0 na3 rfl rfl rfl rfl ?_
      refine WL.nil ?_
      exact hpost _ _ hc rfl _ (fun _ hd => by obtain rfl := Option.some.inj hd; exact ⟨rfl, trivial⟩)
    · intro Q ρ I1 H hI1 hk hpost
      have hc := Mem.le.refl I1
      refine fa fl41_5 rfl rfl ?_
      refine WL.nil ?_
      exact hpost _ _ hc rfl _ (fun _ hd => by obtain rfl := Option.some.inj hd; exact ⟨rfl, trivial⟩)
    · intro Q ρ I1 H hI1 hk hpost
      obtain ⟨_, -⟩ := hk
      have hc := Mem.le.refl I1
      refine ld 0 na22 rfl rfl rfl rfl ?_
      refine WL.nil ?_
      exact hpost _ _ hc rfl _ (fun _ hd => by obtain rfl := Option.some.inj hd; exact ⟨rfl, trivial⟩)
    · intro Q ρ I1 H hI1 hk hpost
      have hc := Mem.le.refl I1
      refine fa fl41_6 rfl rfl ?_
      refine WL.nil ?_
      exact hpost _ _ hc rfl _ (fun _ hd => by obtain rfl := Option.some.inj hd; exact ⟨rfl, trivial⟩)
    · intro Q ρ I1 H hI1 hk hpost
      obtain ⟨_, -⟩ := hk
      have hc := Mem.le.refl I1
      refine ld 0 na4 rfl rfl rfl rfl ?_
      refine WL.nil ?_
      exact hpost _ _ hc rfl _ (fun _ hd => by obtain rfl := Option.some.inj hd; exact ⟨rfl, trivial⟩)
    · intro Q ρ I1 H hI1 hk hpost
      have hc := Mem.le.refl I1
      refine fa fl41_4 rfl rfl ?_
      refine WL.nil ?_
      exact hpost _ _ hc rfl _ (fun _ hd => by obtain rfl := Option.some.inj hd; exact ⟨rfl, trivial⟩)
    · intro Q ρ I1 H hI1 hk hpost
      obtain ⟨_, _, -⟩ := hk
      have hc := Mem.le.refl I1
      refine st (C' := #[(.int .i64 p0.Kind), (.int .i64 p0.Path), (.int .i64 p0.Number), (.int .i64 0), (.int .i64 p0.From), (.slice none 0 0), (.bool false), (.int .i64 0), (.int .i64 0)]) sz3 rfl rfl rfl rfl rfl ?_
      refine WL.nil ?_
      exact hpost undef _ hc trivial _ (fun _ hd => by cases hd)
    · intro Q ρ I1 H hI1 hk hpost
      have hc := Mem.le.refl I1
      refine fa fl41_5 rfl rfl ?_
      refine WL.nil ?_
      exact hpost _ _ hc rfl _ (fun _ hd => by obtain rfl := Option.some.inj hd; exact ⟨rfl, trivial⟩)
    · intro Q ρ I1 H hI1 hk hpost
      obtain ⟨_, _, -⟩ := hk
      have hc := Mem.le.refl I1
      refine st (C' := #[(.int .i64 p0.Kind), (.int .i64 p0.Path), (.int .i64 p0.Number), (.int .i64 0), (.int .i64 p0.From), (.slice a0_5 p0.Data.length c0_5), (.bool false), (.int .i64 0), (.int .i64 0)]) sz22 rfl rfl rfl rfl rfl ?_
      refine WL.nil ?_
      exact hpost undef _ hc trivial _ (fun _ hd => by cases hd)
    · intro Q ρ I1 H hI1 hk hpost
      have hc := Mem.le.refl I1
      refine fa fl41_6 rfl rfl ?_
      refine WL.nil ?_
      exact hpost _ _ hc rfl _ (fun _ hd => by obtain rfl := Option.some.inj hd; exact ⟨rfl, trivial⟩)
    · intro Q ρ I1 H hI1 hk hpost
      obtain ⟨_, _, -⟩ := hk
      have hc := Mem.le.refl I1
      refine st (C' := #[(.int .i64 p0.Kind), (.int .i64 p0.Path), (.int .i64 p0.Number), (.int .i64 0), (.int .i64 p0.From), (.slice a0_5 p0.Data.length c0_5), (.bool p0.Fin), (.int .i64 0), (.int .i64 0)]) sz4 rfl rfl rfl rfl rfl ?_
      refine WL.nil ?_
      exact hpost undef _ hc trivial _ (fun _ hd => by cases hd)
    rintro ρ J9 hJ10 -
    refine WX.sub (r := [(2, (.pointer (some ⟨g3, 0, none⟩))), (3, (.pointer (some ⟨g5, 0, none⟩)))]) ?_ ⟨rfl, rfl, trivial⟩
    refine WX.is (H := bl g1 #[(.int .i64 p0.Kind), (.int .i64 p0.Path), (.int .i64 p0.Number), (.int .i64 p0.Of), (.int .i64 p0.From), (.slice a0_5 p0.Data.length c0_5), (.bool p0.Fin), (.int .i64 p0.Seen), (.int .i64 p0.Limit)] 41 :: bl g5 #[(.int .i64 p0.Kind), (.int .i64 p0.Path), (.int .i64 p0.Number), (.int .i64 0), (.int .i64 p0.From), (.slice a0_5 p0.Data.length c0_5), (.bool p0.Fin), (.int .i64 0), (.int .i64 0)] 41 :: bl g3 #[(.int .i64 0), (.int .i64 0), (.int .i64 0), (.int .i64 0), (.int .i64 0), (.slice none 0 0), (.bool false), (.int .i64 0), (.int .i64 0)] 41 :: G) rfl ?_
    have hI := hI.trans hJ10
    replace hp0_5 := hp0_5.up hJ10
    refine WX.block_normal ?_
    refine WX.then_ ?_
    refine WC.seq ?_
    refine WC.region ?_
    refine lda 1 ya41 rfl rfl rfl rfl rfl ?_
    refine WL.front 2 ?_
    refine sta (C' := #[(.int .i64 p0.Kind), (.int .i64 p0.Path), (.int .i64 p0.Number), (.int .i64 0), (.int .i64 p0.From), (.slice a0_5 p0.Data.length c0_5), (.bool p0.Fin), (.int .i64 0), (.int .i64 0)]) sz41 rfl rfl rfl rfl rfl rfl ?_
    refine WL.del 1 ?_
    refine WL.del 1 ?_
    refine WL.next ?_
    refine WC.ret ?_
    cases h
    exact retC1x Try.results64 (fun a w ha hw => RC.cellA ha hw 0 rfl ya41 rfl rfl) (fun w hw => hw |>.del 0) hI ⟨_, _, rfl, hp0_5, rfl⟩
  refine WC.seq ?_
  refine WC.region ?_
  refine eq rfl rfl rfl ?_
  refine asg rfl rfl ?_
  refine WL.next ?_
  refine WC.ite rfl h (fun k11 h => ?_) (fun k11 h => ?_)
  · skip
    refine WC.sub (r := [(1, (.pointer (some ⟨g1, 0, none⟩))), (2, (.pointer (some ⟨g3, 0, none⟩))), (3, (.pointer (some ⟨g5, 0, none⟩)))]) ?_ ⟨rfl, rfl, rfl, trivial⟩
    refine WC.front 2 ?_
    refine WC.drawn mo (nthL [[], [0], [], [2], [], [4], [0, 1], [0, 1, 6], [0, 1, 2, 3, 6, 7], [0, 1, 2, 3, 6, 7, 8], [0, 1, 2, 3, 4, 5, 6, 7, 8, 9], [0, 1, 2, 3, 4, 5, 6, 7, 8, 9, 10]]) (nthL [[], [0], [], [2], [], [4], [], [1, 6], [], [3, 8], [], [5, 10]]) (nthK [.val (.pointer (some ⟨g1, 3, none⟩)), .val (.int .i64 p0.Of), .val (.pointer (some ⟨g1, 7, none⟩)), .val (.int .i64 p0.Seen), .val (.pointer (some ⟨g1, 8, none⟩)), .val (.int .i64 p0.Limit), .val (.pointer (some ⟨g5, 3, none⟩)), .any, .val (.pointer (some ⟨g5, 7, none⟩)), .any, .val (.pointer (some ⟨g5, 8, none⟩)), .any]) [⟨none, none, [1, 3, 5], [], fun _ => bl g1 #[(.int .i64 p0.Kind), (.int .i64 p0.Path), (.int .i64 p0.Number), (.int .i64 p0.Of), (.int .i64 p0.From), (.slice a0_5 p0.Data.length c0_5), (.bool p0.Fin), (.int .i64 p0.Seen), (.int .i64 p0.Limit)] 41⟩, ⟨none, (some 7), [], [], fun _ => bl g5 #[(.int .i64 p0.Kind), (.int .i64 p0.Path), (.int .i64 p0.Number), (.int .i64 0), (.int .i64 0), (.slice none 0 0), (.bool false), (.int .i64 0), (.int .i64 0)] 41⟩, ⟨(some 7), (some 9), [], [], fun _ => bl g5 #[(.int .i64 p0.Kind), (.int .i64 p0.Path), (.int .i64 p0.Number), (.int .i64 p0.Of), (.int .i64 0), (.slice none 0 0), (.bool false), (.int .i64 0), (.int .i64 0)] 41⟩, ⟨(some 9), (some 11), [], [], fun _ => bl g5 #[(.int .i64 p0.Kind), (.int .i64 p0.Path), (.int .i64 p0.Number), (.int .i64 p0.Of), (.int .i64 0), (.slice none 0 0), (.bool false), (.int .i64 p0.Seen), (.int .i64 0)] 41⟩, ⟨(some 11), none, [], [], fun _ => bl g5 #[(.int .i64 p0.Kind), (.int .i64 p0.Path), (.int .i64 p0.Number), (.int .i64 p0.Of), (.int .i64 0), (.slice none 0 0), (.bool false), (.int .i64 p0.Seen), (.int .i64 p0.Limit)] 41⟩] (by kernel_rfl) (by kernel_rfl) (by kernel_rfl) (H := bl g3 #[(.int .i64 0), (.int .i64 0), (.int .i64 0), (.int .i64 0), (.int .i64 0), (.slice none 0 0), (.bool false), (.int .i64 0), (.int .i64 0)] 41 :: G) rfl ⟨?_, ?_, ?_, ?_, ?_, ?_, ?_, ?_, ?_, ?_, ?_, ?_, trivial⟩ ?_
    · intro Q ρ I1 H hI1 hk hpost
      have hc := Mem.le.refl I1
      refine fa fl41_3 rfl rfl ?_
      refine WL.nil ?_
      exact hpost _ _ hc rfl _ (fun _ hd => by obtain rfl := Option.some.inj hd; exact ⟨rfl, trivial⟩)
    · intro Q ρ I1 H hI1 hk hpost
      obtain ⟨_, -⟩ := hk
      have hc := Mem.le.refl I1
      refine ld 0 na3 rfl rfl rfl rfl ?_
      refine WL.nil ?_
      exact hpost _ _ hc rfl _ (fun _ hd => by obtain rfl := Option.some.inj hd; exact ⟨rfl, trivial⟩)
    · intro Q ρ I1 H hI1 hk hpost
      have hc := Mem.le.refl I1
      refine fa fl41_7 rfl rfl ?_
      refine WL.nil ?_
      exact hpost _ _ hc rfl _ (fun _ hd => by obtain rfl := Option.some.inj hd; exact ⟨rfl, trivial⟩)
    · intro Q ρ I1 H hI1 hk hpost
      obtain ⟨_, -⟩ := hk
      have hc := Mem.le.refl I1
      refine ld 0 na3 rfl rfl rfl rfl ?_
      refine WL.nil ?_
      exact hpost _ _ hc rfl _ (fun _ hd => by obtain rfl := Option.some.inj hd; exact ⟨rfl, trivial⟩)
    · intro Q ρ I1 H hI1 hk hpost
      have hc := Mem.le.refl I1
      refine fa fl41_8 rfl rfl ?_
      refine WL.nil ?_
      exact hpost _ _ hc rfl _ (fun _ hd => by obtain rfl := Option.some.inj hd; exact ⟨rfl, trivial⟩)
    · intro Q ρ I1 H hI1 hk hpost
      obtain ⟨_, -⟩ := hk
      have hc := Mem.le.refl I1
      refine ld 0 na3 rfl rfl rfl rfl ?_
      refine WL.nil ?_
      exact hpost _ _ hc rfl _ (fun _ hd => by obtain rfl := Option.some.inj hd; exact ⟨rfl, trivial⟩)
    · intro Q ρ I1 H hI1 hk hpost
      have hc := Mem.le.refl I1
      refine fa fl41_3 rfl rfl ?_
      refine WL.nil ?_
      exact hpost _ _ hc rfl _ (fun _ hd => by obtain rfl := Option.some.inj hd; exact ⟨rfl, trivial⟩)
    · intro Q ρ I1 H hI1 hk hpost
      obtain ⟨_, _, -⟩ := hk
      have hc := Mem.le.refl I1
      refine st (C' := #[(.int .i64 p0.Kind), (.int .i64 p0.Path), (.int .i64 p0.Number), (.int .i64 p0.Of), (.int .i64 0), (.slice none 0 0), (.bool false), (.int .i64 0), (.int .i64 0)]) sz3 rfl rfl rfl rfl rfl ?_
      refine WL.nil ?_
      exact hpost undef _ hc trivial _ (fun _ hd => by cases hd)
    · intro Q ρ I1 H hI1 hk hpost
      have hc := Mem.le.refl I1
      refine fa fl41_7 rfl rfl ?_
      refine WL.nil ?_
      exact hpost _ _ hc rfl _ (fun _ hd => by obtain rfl := Option.some.inj hd; exact ⟨rfl, trivial⟩)
    · intro Q ρ I1 H hI1 hk hpost
      obtain ⟨_, _, -⟩ := hk
      have hc := Mem.le.refl I1
      refine st (C' := #[(.int .i64 p0.Kind), (.int .i64 p0.Path), (.int .i64 p0.Number), (.int .i64 p0.Of), (.int .i64 0), (.slice none 0 0), (.bool false), (.int .i64 p0.Seen), (.int .i64 0)]) sz3 rfl rfl rfl rfl rfl ?_
      refine WL.nil ?_
      exact hpost undef _ hc trivial _ (fun _ hd => by cases hd)
    · intro Q ρ I1 H hI1 hk hpost
      have hc := Mem.le.refl I1
      refine fa fl41_8 rfl rfl ?_
      refine WL.nil ?_
      exact hpost _ _ hc rfl _ (fun _ hd => by obtain rfl := Option.some.inj hd; exact ⟨rfl, trivial⟩)
    · intro Q ρ I1 H hI1 hk hpost
      obtain ⟨_, _, -⟩ := hk
      have hc := Mem.le.refl I1
      refine st (C' := #[(.int .i64 p0.Kind), (.int .i64 p0.Path), (.int .i64 p0.Number), (.int .i64 p0.Of), (.int .i64 0), (.slice none 0 0), (.bool false), (.int .i64 p0.Seen), (.int .i64 p0.Limit)]) sz3 rfl rfl rfl rfl rfl ?_
      refine WL.nil ?_
      exact hpost undef _ hc trivial _ (fun _ hd => by cases hd)
    rintro ρ J12 hJ13 -
    refine WX.sub (r := [(2, (.pointer (some ⟨g3, 0, none⟩))), (3, (.pointer (some ⟨g5, 0, none⟩)))]) ?_ ⟨rfl, rfl, trivial⟩
    refine WX.is (H := bl g1 #[(.int .i64 p0.Kind), (.int .i64 p0.Path), (.int .i64 p0.Number), (.int .i64 p0.Of), (.int .i64 p0.From), (.slice a0_5 p0.Data.length c0_5), (.bool p0.Fin), (.int .i64 p0.Seen), (.int .i64 p0.Limit)] 41 :: bl g5 #[(.int .i64 p0.Kind), (.int .i64 p0.Path), (.int .i64 p0.Number), (.int .i64 p0.Of), (.int .i64 0), (.slice none 0 0), (.bool false), (.int .i64 p0.Seen), (.int .i64 p0.Limit)] 41 :: bl g3 #[(.int .i64 0), (.int .i64 0), (.int .i64 0), (.int .i64 0), (.int .i64 0), (.slice none 0 0), (.bool false), (.int .i64 0), (.int .i64 0)] 41 :: G) rfl ?_
    have hI := hI.trans hJ13
    replace hp0_5 := hp0_5.up hJ13
    refine WX.block_normal ?_
    refine WX.then_ ?_
    refine WC.seq ?_
    refine WC.region ?_
    refine lda 1 ya41 rfl rfl rfl rfl rfl ?_
    refine WL.front 2 ?_
    refine sta (C' := #[(.int .i64 p0.Kind), (.int .i64 p0.Path), (.int .i64 p0.Number), (.int .i64 p0.Of), (.int .i64 0), (.slice none 0 0), (.bool false), (.int .i64 p0.Seen), (.int .i64 p0.Limit)]) sz41 rfl rfl rfl rfl rfl rfl ?_
    refine WL.del 1 ?_
    refine WL.del 1 ?_
    refine WL.next ?_
    refine WC.ret ?_
    cases h
    exact retC1x Try.results64 (fun a w ha hw => RC.cellA ha hw 0 rfl ya41 rfl rfl) (fun w hw => hw |>.del 0) hI ⟨_, _, rfl, (IV.nil _ : IV _ _ ([] : List UInt8)), rfl⟩
  refine WC.skip ?_
  refine WX.block_normal ?_
  refine WX.then_ ?_
  refine WC.seq ?_
  refine WC.region ?_
  refine lda 0 ya41 rfl rfl rfl rfl rfl ?_
  refine WL.front 1 ?_
  refine sta (C' := #[(.int .i64 p0.Kind), (.int .i64 p0.Path), (.int .i64 p0.Number), (.int .i64 0), (.int .i64 0), (.slice none 0 0), (.bool false), (.int .i64 0), (.int .i64 0)]) sz41 rfl rfl rfl rfl rfl rfl ?_
  refine WL.del 1 ?_
  refine WL.del 1 ?_
  refine WL.next ?_
  refine WC.ret ?_
  cases h
  exact retC1x Try.results64 (fun a w ha hw => RC.cellA ha hw 0 rfl ya41 rfl rfl) (fun w hw => hw |>.del 0) hI ⟨_, _, rfl, (IV.nil _ : IV _ _ ([] : List UInt8)), rfl⟩
theorem W37 {I : Mem} {G : List Asn} {p0 : api_Packet} {p1 : api_Packet} {r : Bool} (h : packet_Same p0 p1 = some r) {u0_5 : Value} (hp0_5 : IV I u0_5 p0.Data) {u1_5 : Value} (hp1_5 : IV I u1_5 p1.Data) :
    CallsS Try.prog 37 #[.agg #[(.int .i64 p0.Kind), (.int .i64 p0.Path), (.int .i64 p0.Number), (.int .i64 p0.Of), (.int .i64 p0.From), u0_5, (.bool p0.Fin), (.int .i64 p0.Seen), (.int .i64 p0.Limit)], .agg #[(.int .i64 p1.Kind), (.int .i64 p1.Path), (.int .i64 p1.Number), (.int .i64 p1.Of), (.int .i64 p1.From), u1_5, (.bool p1.Fin), (.int .i64 p1.Seen), (.int .i64 p1.Limit)]] I (G) (fun v J G' => v = .bool r ∧ G = G') := by
  refine CallsS.enter Try.func37 rfl Try.ntmps37 rfl (fun w0 => ?_)
  have hI := Mem.le.refl I
  obtain ⟨a0_5, c0_5, rfl⟩ := hp0_5.hd
  obtain ⟨a1_5, c1_5, rfl⟩ := hp1_5.hd
  unfold packet_Same at h
  refine WC.seq ?_
  refine WC.region ?_
  refine bx rfl rfl rfl (fun g1 => ?_)
  refine bx rfl rfl rfl (fun g3 => ?_)
  refine asg rfl rfl ?_
  refine WL.next ?_
  refine WC.seq ?_
  obtain ⟨j14, hj14, h⟩ := bnd h
  refine WC.joinQ (σ := Bool) (fun x13 => [(2, (.pointer (some ⟨g1, 0, none⟩))), (3, (.pointer (some ⟨g3, 0, none⟩))), (5, (.bool x13))]) (fun x13 => bl g3 #[(.int .i64 p1.Kind), (.int .i64 p1.Path), (.int .i64 p1.Number), (.int .i64 p1.Of), (.int .i64 p1.From), (.slice a1_5 p1.Data.length c1_5), (.bool p1.Fin), (.int .i64 p1.Seen), (.int .i64 p1.Limit)] 41 :: bl g1 #[(.int .i64 p0.Kind), (.int .i64 p0.Path), (.int .i64 p0.Number), (.int .i64 p0.Of), (.int .i64 p0.From), (.slice a0_5 p0.Data.length c0_5), (.bool p0.Fin), (.int .i64 p0.Seen), (.int .i64 p0.Limit)] 41 :: G) (fun x13 J => x13 = j14) (fun kj14 => ?_) ?_
  · skip
    have lj14 := Mem.le.refl I
    refine WC.region ?_
    refine fa fl41_0 rfl rfl ?_
    refine ld 1 na3 rfl rfl rfl rfl ?_
    refine fa fl41_0 rfl rfl ?_
    refine ld 0 na3 rfl rfl rfl rfl ?_
    refine eq rfl rfl rfl ?_
    refine mv rfl rfl ?_
    rcases spl hj14 with ⟨k15, hj14⟩ | ⟨k15, hj14⟩
    · skip
      refine WL.rb 11 rfl (bT k15) ?_
      refine WL.on rfl rfl ?_
      refine fa fl41_1 rfl rfl ?_
      refine WL.on rfl rfl ?_
      refine ld 1 na3 rfl rfl rfl rfl ?_
      refine WL.on rfl rfl ?_
      refine fa fl41_1 rfl rfl ?_
      refine WL.on rfl rfl ?_
      refine ld 0 na3 rfl rfl rfl rfl ?_
      refine WL.on rfl rfl ?_
      refine eq rfl rfl rfl ?_
      refine pkT rfl rfl rfl ?_
      refine mv rfl rfl ?_
      rcases spl hj14 with ⟨k16, hj14⟩ | ⟨k16, hj14⟩
      · skip
        refine WL.rb 18 rfl (bT k16) ?_
        refine WL.on rfl rfl ?_
        refine fa fl41_2 rfl rfl ?_
        refine WL.on rfl rfl ?_
        refine ld 1 na3 rfl rfl rfl rfl ?_
        refine WL.on rfl rfl ?_
        refine fa fl41_2 rfl rfl ?_
        refine WL.on rfl rfl ?_
        refine ld 0 na3 rfl rfl rfl rfl ?_
        refine WL.on rfl rfl ?_
        refine eq rfl rfl rfl ?_
        refine pkT rfl rfl rfl ?_
        refine mv rfl rfl ?_
        rcases spl hj14 with ⟨k17, hj14⟩ | ⟨k17, hj14⟩
        · skip
          refine WL.rb 25 rfl (bT k17) ?_
          refine WL.on rfl rfl ?_
          refine fa fl41_3 rfl rfl ?_
          refine WL.on rfl rfl ?_
          refine ld 1 na3 rfl rfl rfl rfl ?_
          refine WL.on rfl rfl ?_
          refine fa fl41_3 rfl rfl ?_
          refine WL.on rfl rfl ?_
          refine ld 0 na3 rfl rfl rfl rfl ?_
          refine WL.on rfl rfl ?_
          refine eq rfl rfl rfl ?_
          refine pkT rfl rfl rfl ?_
          refine mv rfl rfl ?_
          rcases spl hj14 with ⟨k18, hj14⟩ | ⟨k18, hj14⟩
          · skip
            refine WL.rb 32 rfl (bT k18) ?_
            refine WL.on rfl rfl ?_
            refine fa fl41_4 rfl rfl ?_
            refine WL.on rfl rfl ?_
            refine ld 1 na3 rfl rfl rfl rfl ?_
            refine WL.on rfl rfl ?_
            refine fa fl41_4 rfl rfl ?_
            refine WL.on rfl rfl ?_
            refine ld 0 na3 rfl rfl rfl rfl ?_
            refine WL.on rfl rfl ?_
            refine eq rfl rfl rfl ?_
            refine pkT rfl rfl rfl ?_
            refine asg rfl rfl ?_
            refine WL.nil ?_
            refine WX.front 1 ?_
            refine WX.front 1 ?_
            exact (kj14 (decide (p0.From = p1.From)) _ lj14 (Option.some.inj hj14)).sub ⟨rfl, rfl, rfl, trivial⟩
          refine WL.rb 32 rfl (bF k18) ?_
          refine WL.no rfl rfl rfl rfl ?_
          refine WL.no rfl rfl rfl rfl ?_
          refine WL.no rfl rfl rfl rfl ?_
          refine WL.no rfl rfl rfl rfl ?_
          refine WL.no rfl rfl rfl rfl ?_
          refine pkF rfl rfl rfl ?_
          refine asg rfl rfl ?_
          refine WL.nil ?_
          refine WX.front 1 ?_
          refine WX.front 1 ?_
          exact (kj14 false _ lj14 (Option.some.inj hj14)).sub ⟨rfl, rfl, rfl, trivial⟩
        refine WL.rb 25 rfl (bF k17) ?_
        refine WL.no rfl rfl rfl rfl ?_
        refine WL.no rfl rfl rfl rfl ?_
        refine WL.no rfl rfl rfl rfl ?_
        refine WL.no rfl rfl rfl rfl ?_
        refine WL.no rfl rfl rfl rfl ?_
        refine pkF rfl rfl rfl ?_
        refine mv rfl rfl ?_
        refine WL.no rfl rfl rfl rfl ?_
        refine WL.no rfl rfl rfl rfl ?_
        refine WL.no rfl rfl rfl rfl ?_
        refine WL.no rfl rfl rfl rfl ?_
        refine WL.no rfl rfl rfl rfl ?_
        refine pkF rfl rfl rfl ?_
        refine asg rfl rfl ?_
        refine WL.nil ?_
        refine WX.front 1 ?_
        refine WX.front 1 ?_
        exact (kj14 false _ lj14 (Option.some.inj hj14)).sub ⟨rfl, rfl, rfl, trivial⟩
      refine WL.rb 18 rfl (bF k16) ?_
      refine WL.no rfl rfl rfl rfl ?_
      refine WL.no rfl rfl rfl rfl ?_
      refine WL.no rfl rfl rfl rfl ?_
      refine WL.no rfl rfl rfl rfl ?_
      refine WL.no rfl rfl rfl rfl ?_
      refine pkF rfl rfl rfl ?_
      refine mv rfl rfl ?_
      refine WL.no rfl rfl rfl rfl ?_
      refine WL.no rfl rfl rfl rfl ?_
      refine WL.no rfl rfl rfl rfl ?_
      refine WL.no rfl rfl rfl rfl ?_
      refine WL.no rfl rfl rfl rfl ?_
      refine pkF rfl rfl rfl ?_
      refine mv rfl rfl ?_
      refine WL.no rfl rfl rfl rfl ?_
      refine WL.no rfl rfl rfl rfl ?_
      refine WL.no rfl rfl rfl rfl ?_
      refine WL.no rfl rfl rfl rfl ?_
      refine WL.no rfl rfl rfl rfl ?_
      refine pkF rfl rfl rfl ?_
      refine asg rfl rfl ?_
      refine WL.nil ?_
      refine WX.front 1 ?_
      refine WX.front 1 ?_
      exact (kj14 false _ lj14 (Option.some.inj hj14)).sub ⟨rfl, rfl, rfl, trivial⟩
    refine WL.rb 11 rfl (bF k15) ?_
    refine WL.no rfl rfl rfl rfl ?_
    refine WL.no rfl rfl rfl rfl ?_
    refine WL.no rfl rfl rfl rfl ?_
    refine WL.no rfl rfl rfl rfl ?_
    refine WL.no rfl rfl rfl rfl ?_
    refine pkF rfl rfl rfl ?_
    refine mv rfl rfl ?_
    refine WL.no rfl rfl rfl rfl ?_
    refine WL.no rfl rfl rfl rfl ?_
    refine WL.no rfl rfl rfl rfl ?_
    refine WL.no rfl rfl rfl rfl ?_
    refine WL.no rfl rfl rfl rfl ?_
    refine pkF rfl rfl rfl ?_
    refine mv rfl rfl ?_
    refine WL.no rfl rfl rfl rfl ?_
    refine WL.no rfl rfl rfl rfl ?_
    refine WL.no rfl rfl rfl rfl ?_
    refine WL.no rfl rfl rfl rfl ?_
    refine WL.no rfl rfl rfl rfl ?_
    refine pkF rfl rfl rfl ?_
    refine mv rfl rfl ?_
    refine WL.no rfl rfl rfl rfl ?_
    refine WL.no rfl rfl rfl rfl ?_
    refine WL.no rfl rfl rfl rfl ?_
    refine WL.no rfl rfl rfl rfl ?_
    refine WL.no rfl rfl rfl rfl ?_
    refine pkF rfl rfl rfl ?_
    refine asg rfl rfl ?_
    refine WL.nil ?_
    refine WX.front 1 ?_
    refine WX.front 1 ?_
    exact (kj14 false _ lj14 (Option.some.inj hj14)).sub ⟨rfl, rfl, rfl, trivial⟩
  rintro x13 J19 hJ20 rfl
  have hI := hI.trans hJ20
  replace hp1_5 := hp1_5.up hJ20; replace hp0_5 := hp0_5.up hJ20
  refine WX.then_ ?_
  refine WC.seq ?_
  refine WC.region ?_
  refine mv rfl rfl ?_
  refine mv rfl rfl ?_
  rcases spl h with ⟨k21, h⟩ | ⟨k21, h⟩
  · skip
    refine WL.rb 40 rfl (bt1 k21) ?_
    refine WL.on rfl rfl ?_
    refine fa fl41_5 rfl rfl ?_
    refine WL.on rfl rfl ?_
    refine ld 1 na22 rfl rfl rfl rfl ?_
    refine WL.on rfl rfl ?_
    refine fa fl41_5 rfl rfl ?_
    refine WL.on rfl rfl ?_
    refine ld 0 na22 rfl rfl rfl rfl ?_
    refine WL.on rfl rfl ?_
    obtain ⟨x22, e23, h⟩ := bnd h
    refine call cl56 rfl rfl (W56 e23 hp0_5 hp1_5) (fun _ J24 _ hJ25 q26 => ?_)
    have hI := hI.trans hJ25
    replace hp0_5 := hp0_5.up hJ25; replace hp1_5 := hp1_5.up hJ25
    obtain ⟨rfl, rfl⟩ := q26
    refine pkT rfl rfl rfl ?_
    refine mv rfl rfl ?_
    rcases spl h with ⟨k27, h⟩ | ⟨k27, h⟩
    · skip
      refine WL.rb 47 rfl (bt1 k27) ?_
      refine WL.on rfl rfl ?_
      refine fa fl41_6 rfl rfl ?_
      refine WL.on rfl rfl ?_
      refine ld 1 na4 rfl rfl rfl rfl ?_
      refine WL.on rfl rfl ?_
      refine fa fl41_6 rfl rfl ?_
      refine WL.on rfl rfl ?_
      refine ld 0 na4 rfl rfl rfl rfl ?_
      refine WL.on rfl rfl ?_
      refine be Try.underlying4 rfl rfl rfl ?_
      refine pkT rfl rfl rfl ?_
      refine mv rfl rfl ?_
      rcases spl h with ⟨k28, h⟩ | ⟨k28, h⟩
      · skip
        refine WL.rb 54 rfl (bt1 k28) ?_
        refine WL.on rfl rfl ?_
        refine fa fl41_7 rfl rfl ?_
        refine WL.on rfl rfl ?_
        refine ld 1 na3 rfl rfl rfl rfl ?_
        refine WL.on rfl rfl ?_
        refine fa fl41_7 rfl rfl ?_
        refine WL.on rfl rfl ?_
        refine ld 0 na3 rfl rfl rfl rfl ?_
        refine WL.on rfl rfl ?_
        refine eq rfl rfl rfl ?_
        refine pkT rfl rfl rfl ?_
        refine mv rfl rfl ?_
        rcases spl h with ⟨k29, h⟩ | ⟨k29, h⟩
        · skip
          refine WL.rb 61 rfl (bT k29) ?_
          refine WL.on rfl rfl ?_
          refine fa fl41_8 rfl rfl ?_
          refine WL.on rfl rfl ?_
          refine ld 1 na3 rfl rfl rfl rfl ?_
          refine WL.on rfl rfl ?_
          refine fa fl41_8 rfl rfl ?_
          refine WL.on rfl rfl ?_
          refine ld 0 na3 rfl rfl rfl rfl ?_
          refine WL.on rfl rfl ?_
          refine eq rfl rfl rfl ?_
          refine pkT rfl rfl rfl ?_
          refine asg rfl rfl ?_
          refine WL.del 0 ?_
          refine WL.del 0 ?_
          refine WL.next ?_
          refine WC.ret ?_
          cases h
          exact ret1 Try.results37 rfl hI ⟨rfl, rfl⟩
        refine WL.rb 61 rfl (bF k29) ?_
        refine WL.no rfl rfl rfl rfl ?_
        refine WL.no rfl rfl rfl rfl ?_
        refine WL.no rfl rfl rfl rfl ?_
        refine WL.no rfl rfl rfl rfl ?_
        refine WL.no rfl rfl rfl rfl ?_
        refine pkF rfl rfl rfl ?_
        refine asg rfl rfl ?_
        refine WL.del 0 ?_
        refine WL.del 0 ?_
        refine WL.next ?_
        refine WC.ret ?_
        cases h
        exact ret1 Try.results37 rfl hI ⟨rfl, rfl⟩
      refine WL.rb 54 rfl (bf1 k28) ?_
      refine WL.no rfl rfl rfl rfl ?_
      refine WL.no rfl rfl rfl rfl ?_
      refine WL.no rfl rfl rfl rfl ?_
      refine WL.no rfl rfl rfl rfl ?_
      refine WL.no rfl rfl rfl rfl ?_
      refine pkF rfl rfl rfl ?_
      refine mv rfl rfl ?_
      refine WL.no rfl rfl rfl rfl ?_
      refine WL.no rfl rfl rfl rfl ?_
      refine WL.no rfl rfl rfl rfl ?_
      refine WL.no rfl rfl rfl rfl ?_
      refine WL.no rfl rfl rfl rfl ?_
      refine pkF rfl rfl rfl ?_
      refine asg rfl rfl ?_
      refine WL.del 0 ?_
      refine WL.del 0 ?_
      refine WL.next ?_
      refine WC.ret ?_
      cases h
      exact ret1 Try.results37 rfl hI ⟨rfl, rfl⟩
    refine WL.rb 47 rfl (bf1 k27) ?_
    refine WL.no rfl rfl rfl rfl ?_
    refine WL.no rfl rfl rfl rfl ?_
    refine WL.no rfl rfl rfl rfl ?_
    refine WL.no rfl rfl rfl rfl ?_
    refine WL.no rfl rfl rfl rfl ?_
    refine pkF rfl rfl rfl ?_
    refine mv rfl rfl ?_
    refine WL.no rfl rfl rfl rfl ?_
    refine WL.no rfl rfl rfl rfl ?_
    refine WL.no rfl rfl rfl rfl ?_
    refine WL.no rfl rfl rfl rfl ?_
    refine WL.no rfl rfl rfl rfl ?_
    refine pkF rfl rfl rfl ?_
    refine mv rfl rfl ?_
    refine WL.no rfl rfl rfl rfl ?_
    refine WL.no rfl rfl rfl rfl ?_
    refine WL.no rfl rfl rfl rfl ?_
    refine WL.no rfl rfl rfl rfl ?_
    refine WL.no rfl rfl rfl rfl ?_
    refine pkF rfl rfl rfl ?_
    refine asg rfl rfl ?_
    refine WL.del 0 ?_
    refine WL.del 0 ?_
    refine WL.next ?_
    refine WC.ret ?_
    cases h
    exact ret1 Try.results37 rfl hI ⟨rfl, rfl⟩
  refine WL.rb 40 rfl (bf1 k21) ?_
  refine WL.no rfl rfl rfl rfl ?_
  refine WL.no rfl rfl rfl rfl ?_
  refine WL.no rfl rfl rfl rfl ?_
  refine WL.no rfl rfl rfl rfl ?_
  refine WL.no rfl rfl rfl rfl ?_
  refine pkF rfl rfl rfl ?_
  refine mv rfl rfl ?_
  refine WL.no rfl rfl rfl rfl ?_
  refine WL.no rfl rfl rfl rfl ?_
  refine WL.no rfl rfl rfl rfl ?_
  refine WL.no rfl rfl rfl rfl ?_
  refine WL.no rfl rfl rfl rfl ?_
  refine pkF rfl rfl rfl ?_
  refine mv rfl rfl ?_
  refine WL.no rfl rfl rfl rfl ?_
  refine WL.no rfl rfl rfl rfl ?_
  refine WL.no rfl rfl rfl rfl ?_
  refine WL.no rfl rfl rfl rfl ?_
  refine WL.no rfl rfl rfl rfl ?_
  refine pkF rfl rfl rfl ?_
  refine mv rfl rfl ?_
  refine WL.no rfl rfl rfl rfl ?_
  refine WL.no rfl rfl rfl rfl ?_
  refine WL.no rfl rfl rfl rfl ?_
  refine WL.no rfl rfl rfl rfl ?_
  refine WL.no rfl rfl rfl rfl ?_
  refine pkF rfl rfl rfl ?_
  refine asg rfl rfl ?_
  refine WL.del 0 ?_
  refine WL.del 0 ?_
  refine WL.next ?_
  refine WC.ret ?_
  cases h
  exact ret1 Try.results37 rfl hI ⟨rfl, rfl⟩
theorem W32 {I : Mem} {G : List Asn} {p0 : api_Packet} {r : Int} (h : packet_Check p0 = some r) {u0_5 : Value} (hp0_5 : IV I u0_5 p0.Data) :
    CallsS Try.prog 32 #[.agg #[(.int .i64 p0.Kind), (.int .i64 p0.Path), (.int .i64 p0.Number), (.int .i64 p0.Of), (.int .i64 p0.From), u0_5, (.bool p0.Fin), (.int .i64 p0.Seen), (.int .i64 p0.Limit)]] I (G) (fun v J G' => v = .int .i64 r ∧ G = G') := by
  refine CallsS.enter Try.func32 rfl Try.ntmps32 rfl (fun w0 => ?_)
  have hI := Mem.le.refl I
  obtain ⟨a0_5, c0_5, rfl⟩ := hp0_5.hd
  unfold packet_Check at h
  refine WC.seq ?_
  refine WC.region ?_
  refine bx rfl rfl rfl (fun g1 => ?_)
  refine asg rfl rfl ?_
  refine WL.next ?_
  refine WC.seq ?_
  refine WC.seq ?_
  refine WC.sub (r := [(1, (.pointer (some ⟨g1, 0, none⟩)))]) ?_ ⟨rfl, trivial⟩
  obtain ⟨x3, e4, h⟩ := bnd h
  rcases spl h with ⟨k8, h⟩ | ⟨k8, h⟩
  · skip
    obtain ⟨x9, e10, h⟩ := bnd h
    rcases spl h with ⟨k14, h⟩ | ⟨k14, h⟩
    · skip
      obtain ⟨x15, e16, h⟩ := bnd h
      rcases spl h with ⟨k20, h⟩ | ⟨k20, h⟩
      · skip
        obtain ⟨x21, e22, h⟩ := bnd h
        obtain ⟨x29, e30, h⟩ := bnd h
        refine WC.drawn mo (nthL [[], [0], [0, 1], [0, 1, 2], [0, 1, 2, 3], [0, 1, 2, 3, 4], [0, 1, 2, 3, 4, 5], [0, 1, 2, 3, 4, 5, 6], [0, 1, 2, 3, 4, 5, 6, 7], [0, 1, 2, 3, 4, 5, 6, 7, 8], [0, 1, 2, 3, 4, 5, 6, 7, 8, 9], [0, 1, 2, 3, 4, 5, 6, 7, 8, 9, 10], [0, 1, 2, 3, 4, 5, 6, 7, 8, 9, 10, 11], [0, 1, 2, 3, 4, 5, 6, 7, 8, 9, 10, 11, 12], [0, 1, 2, 3, 4, 5, 6, 7, 8, 9, 10, 11, 12, 13], [0, 1, 2, 3, 4, 5, 6, 7, 8, 9, 10, 11, 12, 13, 14], [0, 1, 2, 3, 4, 5, 6, 7, 8, 9, 10, 11, 12, 13, 14, 15], [0, 1, 2, 3, 4, 5, 6, 7, 8, 9, 10, 11, 12, 13, 14, 15], [0, 1, 2, 3, 4, 5, 6, 7, 8, 9, 10, 11, 12, 13, 14, 15, 17], [0, 1, 2, 3, 4, 5, 6, 7, 8, 9, 10, 11, 12, 13, 14, 15, 16, 17, 18], [0, 1, 2, 3, 4, 5, 6, 7, 8, 9, 10, 11, 12, 13, 14, 15, 16, 17, 18, 19], [0, 1, 2, 3, 4, 5, 6, 7, 8, 9, 10, 11, 12, 13, 14, 15, 16, 17, 18, 19, 20]]) (nthL [[], [0], [1], [2], [3], [3, 4], [3, 5], [3, 6], [3, 7], [8], [9], [9, 10], [9, 11], [9, 12], [9, 13], [14], [15], [15], [15, 17], [15, 16, 18], [15, 19], [15, 20]]) (nthK [.val (.agg #[(.int .i64 p0.Kind), (.int .i64 p0.Path), (.int .i64 p0.Number), (.int .i64 p0.Of), (.int .i64 p0.From), (.slice a0_5 p0.Data.length c0_5), (.bool p0.Fin), (.int .i64 p0.Seen), (.int .i64 p0.Limit)]), .val (.bool x3), .val (.bool (!x3)), .val (.bool false), .val (.pointer (some ⟨g1, 1, none⟩)), .val (.int .i64 p0.Path), .val (.bool x9), .val (.bool (!x9)), .val (.bool (!x9)), .val (.bool false), .val (.pointer (some ⟨g1, 2, none⟩)), .val (.int .i64 p0.Number), .val (.bool x15), .val (.bool (!x15)), .val (.bool (!x15)), .val (.bool false), .val (.agg #[(.int .i64 p0.Kind), (.int .i64 p0.Path), (.int .i64 p0.Number), (.int .i64 p0.Of), (.int .i64 p0.From), (.slice a0_5 p0.Data.length c0_5), (.bool p0.Fin), (.int .i64 p0.Seen), (.int .i64 p0.Limit)]), .val (.agg #[(.int .i64 p0.Kind), (.int .i64 p0.Path), (.int .i64 p0.Number), (.int .i64 p0.Of), (.int .i64 p0.From), (.slice a0_5 p0.Data.length c0_5), (.bool p0.Fin), (.int .i64 p0.Seen), (.int .i64 p0.Limit)]), .of (fun v I => ∃ a18_0 c18_0, v = (.agg #[(.int .i64 x21.Kind), (.int .i64 x21.Path), (.int .i64 x21.Number), (.int .i64 x21.Of), (.int .i64 x21.From), (.slice a18_0 x21.Data.length c18_0), (.bool x21.Fin), (.int .i64 x21.Seen), (.int .i64 x21.Limit)]) ∧ IV I (.slice a18_0 x21.Data.length c18_0) x21.Data) (fun q ⟨a18_0, c18_0, e, h18_0⟩ => ⟨a18_0, c18_0, e, h18_0.up q⟩), .val (.bool x29), .val (.bool (!x29)), .val (.bool (!x29))]) [⟨none, none, [0, 5, 11, 16, 17], [], fun _ => bl g1 #[(.int .i64 p0.Kind), (.int .i64 p0.Path), (.int .i64 p0.Number), (.int .i64 p0.Of), (.int .i64 p0.From), (.slice a0_5 p0.Data.length c0_5), (.bool p0.Fin), (.int .i64 p0.Seen), (.int .i64 p0.Limit)] 41⟩] (by kernel_rfl) (by kernel_rfl) (by kernel_rfl) (H := G) rfl ⟨?_, ?_, ?_, ?_, ?_, ?_, ?_, ?_, ?_, ?_, ?_, ?_, ?_, ?_, ?_, ?_, ?_, ?_, ?_, ?_, ?_, ?_, trivial⟩ ?_
        · intro Q ρ I1 H hI1 hk hpost
          have hc := Mem.le.refl I1
          refine lda 0 ya41 rfl rfl rfl rfl rfl ?_
          refine WL.nil ?_
          exact hpost _ _ hc rfl _ (fun _ hd => by obtain rfl := Option.some.inj hd; exact ⟨rfl, trivial⟩)
        · intro Q ρ I1 H hI1 hk hpost
          obtain ⟨_, -⟩ := hk
          replace hp0_5 := hp0_5.up hI1
          have hc := Mem.le.refl I1
          refine call cl62 rfl rfl (W62 e4 hp0_5) (fun _ J5 _ hJ6 q7 => ?_)
          have hc := hc.trans hJ6
          replace hp0_5 := hp0_5.up hJ6
          obtain ⟨rfl, rfl⟩ := q7
          refine WL.nil ?_
          exact hpost _ _ hc rfl _ (fun _ hd => by obtain rfl := Option.some.inj hd; exact ⟨rfl, trivial⟩)
        · intro Q ρ I1 H hI1 hk hpost
          obtain ⟨_, -⟩ := hk
          have hc := Mem.le.refl I1
          refine nt rfl rfl ?_
          refine WL.nil ?_
          exact hpost _ _ hc rfl _ (fun _ hd => by obtain rfl := Option.some.inj hd; exact ⟨rfl, trivial⟩)
        · intro Q ρ I1 H hI1 hk hpost
          obtain ⟨_, -⟩ := hk
          have hc := Mem.le.refl I1
          refine mv rfl rfl ?_
          refine WL.nil ?_
          exact hpost _ _ hc (bt1n k8) _ (fun _ hd => by obtain rfl := Option.some.inj hd; exact ⟨rfl, trivial⟩)
        · intro Q ρ I1 H hI1 hk hpost
          obtain ⟨_, -⟩ := hk
          have hc := Mem.le.refl I1
          refine WL.on rfl rfl ?_
          refine fa fl41_1 rfl rfl ?_
          refine WL.nil ?_
          exact hpost _ _ hc rfl _ (fun _ hd => by obtain rfl := Option.some.inj hd; exact ⟨rfl, trivial⟩)
        · intro Q ρ I1 H hI1 hk hpost
          obtain ⟨_, _, -⟩ := hk
          have hc := Mem.le.refl I1
          refine WL.on rfl rfl ?_
          refine ld 0 na3 rfl rfl rfl rfl ?_
          refine WL.nil ?_
          exact hpost _ _ hc rfl _ (fun _ hd => by obtain rfl := Option.some.inj hd; exact ⟨rfl, trivial⟩)
        · intro Q ρ I1 H hI1 hk hpost
          obtain ⟨_, _, -⟩ := hk
          have hc := Mem.le.refl I1
          refine WL.on rfl rfl ?_
          refine call cl63 rfl rfl (W63 e10) (fun _ J11 _ hJ12 q13 => ?_)
          have hc := hc.trans hJ12
          obtain ⟨rfl, rfl⟩ := q13
          refine WL.nil ?_
          exact hpost _ _ hc rfl _ (fun _ hd => by obtain rfl := Option.some.inj hd; exact ⟨rfl, trivial⟩)
        · intro Q ρ I1 H hI1 hk hpost
          obtain ⟨_, _, -⟩ := hk
          have hc := Mem.le.refl I1
          refine WL.on rfl rfl ?_
          refine nt rfl rfl ?_
          refine WL.nil ?_
          exact hpost _ _ hc rfl _ (fun _ hd => by obtain rfl := Option.some.inj hd; exact ⟨rfl, trivial⟩)
        · intro Q ρ I1 H hI1 hk hpost
          obtain ⟨_, _, -⟩ := hk
          have hc := Mem.le.refl I1
          refine pkF rfl rfl rfl ?_
          refine WL.nil ?_
          exact hpost _ _ hc rfl _ (fun _ hd => by obtain rfl := Option.some.inj hd; exact ⟨rfl, trivial⟩)
        · intro Q ρ I1 H hI1 hk hpost
          obtain ⟨_, -⟩ := hk
          have hc := Mem.le.refl I1
          refine mv rfl rfl ?_
          refine WL.nil ?_
          exact hpost _ _ hc (bt1n k14) _ (fun _ hd => by obtain rfl := Option.some.inj hd; exact ⟨rfl, trivial⟩)
        · intro Q ρ I1 H hI1 hk hpost
          obtain ⟨_, -⟩ := hk
          have hc := Mem.le.refl I1
          refine WL.on rfl rfl ?_
          refine fa fl41_2 rfl rfl ?_
          refine WL.nil ?_
          exact hpost _ _ hc rfl _ (fun _ hd => by obtain rfl := Option.some.inj hd; exact ⟨rfl, trivial⟩)
        · intro Q ρ I1 H hI1 hk hpost
          obtain ⟨_, _, -⟩ := hk
          have hc := Mem.le.refl I1
          refine WL.on rfl rfl ?_
          refine ld 0 na3 rfl rfl rfl rfl ?_
          refine WL.nil ?_
          exact hpost _ _ hc rfl _ (fun _ hd => by obtain rfl := Option.some.inj hd; exact ⟨rfl, trivial⟩)
        · intro Q ρ I1 H hI1 hk hpost
          obtain ⟨_, _, -⟩ := hk
          have hc := Mem.le.refl I1
          refine WL.on rfl rfl ?_
          refine call cl63 rfl rfl (W63 e16) (fun _ J17 _ hJ18 q19 => ?_)
          have hc := hc.trans hJ18
          obtain ⟨rfl, rfl⟩ := q19
          refine WL.nil ?_
          exact hpost _ _ hc rfl _ (fun _ hd => by obtain rfl := Option.some.inj hd; exact ⟨rfl, trivial⟩)
        · intro Q ρ I1 H hI1 hk hpost
          obtain ⟨_, _, -⟩ := hk
          have hc := Mem.le.refl I1
          refine WL.on rfl rfl ?_
          refine nt rfl rfl ?_
          refine WL.nil ?_
          exact hpost _ _ hc rfl _ (fun _ hd => by obtain rfl := Option.some.inj hd; exact ⟨rfl, trivial⟩)
        · intro Q ρ I1 H hI1 hk hpost
          obtain ⟨_, _, -⟩ := hk
          have hc := Mem.le.refl I1
          refine pkF rfl rfl rfl ?_
          refine WL.nil ?_
          exact hpost _ _ hc rfl _ (fun _ hd => by obtain rfl := Option.some.inj hd; exact ⟨rfl, trivial⟩)
        · intro Q ρ I1 H hI1 hk hpost
          obtain ⟨_, -⟩ := hk
          have hc := Mem.le.refl I1
          refine mv rfl rfl ?_
          refine WL.nil ?_
          exact hpost _ _ hc (bt1n k20) _ (fun _ hd => by obtain rfl := Option.some.inj hd; exact ⟨rfl, trivial⟩)
        · intro Q ρ I1 H hI1 hk hpost
          obtain ⟨_, -⟩ := hk
          have hc := Mem.le.refl I1
          refine WL.on rfl rfl ?_
          refine lda 0 ya41 rfl rfl rfl rfl rfl ?_
          refine WL.nil ?_
          exact hpost _ _ hc rfl _ (fun _ hd => by obtain rfl := Option.some.inj hd; exact ⟨rfl, trivial⟩)
        · intro Q ρ I1 H hI1 hk hpost
          obtain ⟨_, -⟩ := hk
          have hc := Mem.le.refl I1
          refine WL.on rfl rfl ?_
          refine lda 0 ya41 rfl rfl rfl rfl rfl ?_
          refine WL.nil ?_
          exact hpost _ _ hc rfl _ (fun _ hd => by obtain rfl := Option.some.inj hd; exact ⟨rfl, trivial⟩)
        · intro Q ρ I1 H hI1 hk hpost
          obtain ⟨_, _, -⟩ := hk
          replace hp0_5 := hp0_5.up hI1
          have hc := Mem.le.refl I1
          refine WL.on rfl rfl ?_
          refine call cl64 rfl rfl (W64 e22 hp0_5) (fun _ J23 _ hJ24 q25 => ?_)
          have hc := hc.trans hJ24
          replace hp0_5 := hp0_5.up hJ24
          obtain ⟨a26, c27, rfl, h28, rfl⟩ := q25
          refine WL.nil ?_
          exact hpost _ _ hc ⟨_, _, rfl, h28⟩ _ (fun _ hd => by obtain rfl := Option.some.inj hd; exact ⟨rfl, trivial⟩)
        · intro Q ρ I1 H hI1 hk hpost
          obtain ⟨_, _, k18, -⟩ := hk
          replace hp0_5 := hp0_5.up hI1
          have hc := Mem.le.refl I1
          refine WL.sub (r := [(18, (.bool false)), (19, (.agg #[(.int .i64 p0.Kind), (.int .i64 p0.Path), (.int .i64 p0.Number), (.int .i64 p0.Of), (.int .i64 p0.From), (.slice a0_5 p0.Data.length c0_5), (.bool p0.Fin), (.int .i64 p0.Seen), (.int .i64 p0.Limit)])), (21, (ρ 18))]) ?_ ⟨rfl, rfl, rfl, trivial⟩
          obtain ⟨a18_0, c18_0, ex18, h18_0⟩ := k18
          try rw [ex18]
          refine WL.on rfl rfl ?_
          refine call cl37 rfl rfl (W37 e30 hp0_5 h18_0) (fun _ J31 _ hJ32 q33 => ?_)
          have hc := hc.trans hJ32
          replace hp0_5 := hp0_5.up hJ32; replace h18_0 := h18_0.up hJ32
          obtain ⟨rfl, rfl⟩ := q33
          refine WL.nil ?_
          exact hpost _ _ hc rfl _ (fun _ hd => by obtain rfl := Option.some.inj hd; exact ⟨rfl, trivial⟩)
        · intro Q ρ I1 H hI1 hk hpost
          obtain ⟨_, _, -⟩ := hk
          have hc := Mem.le.refl I1
          refine WL.on rfl rfl ?_
          refine nt rfl rfl ?_
          refine WL.nil ?_
          exact hpost _ _ hc rfl _ (fun _ hd => by obtain rfl := Option.some.inj hd; exact ⟨rfl, trivial⟩)
        · intro Q ρ I1 H hI1 hk hpost
          obtain ⟨_, _, -⟩ := hk
          have hc := Mem.le.refl I1
          refine pkF rfl rfl rfl ?_
          refine WL.nil ?_
          exact hpost _ _ hc rfl _ (fun _ hd => by obtain rfl := Option.some.inj hd; exact ⟨rfl, trivial⟩)
        rintro ρ J34 hJ35 -
        refine WX.sub (r := [(24, (.bool (!x29)))]) ?_ ⟨rfl, trivial⟩
        refine WX.is (H := bl g1 #[(.int .i64 p0.Kind), (.int .i64 p0.Path), (.int .i64 p0.Number), (.int .i64 p0.Of), (.int .i64 p0.From), (.slice a0_5 p0.Data.length c0_5), (.bool p0.Fin), (.int .i64 p0.Seen), (.int .i64 p0.Limit)] 41 :: G) rfl ?_
        have hI := hI.trans hJ35
        replace hp0_5 := hp0_5.up hJ35
        refine WX.then_ ?_
        refine WC.itebn rfl h (fun k36 h => ?_) (fun k36 h => ?_)
        · skip
          refine WC.skip ?_
          refine WX.then_ ?_
          refine WC.seq ?_
          refine WC.region ?_
          refine asg rfl rfl ?_
          refine WL.del 0 ?_
          refine WL.next ?_
          refine WC.ret ?_
          cases h
          exact ret1 Try.results32 rfl hI ⟨rfl, rfl⟩
        refine WC.seq ?_
        refine WC.region ?_
        refine asg rfl rfl ?_
        refine WL.del 0 ?_
        refine WL.next ?_
        refine WC.ret ?_
        refine WX.then_ret ?_
        cases h
        exact ret1 Try.results32 rfl hI ⟨rfl, rfl⟩
      refine WC.drawn mo (nthL [[], [0], [0, 1], [0, 1, 2], [0, 1, 2, 3], [0, 1, 2, 3, 4], [0, 1, 2, 3, 4, 5], [0, 1, 2, 3, 4, 5, 6], [0, 1, 2, 3, 4, 5, 6, 7], [0, 1, 2, 3, 4, 5, 6, 7, 8], [0, 1, 2, 3, 4, 5, 6, 7, 8, 9], [0, 1, 2, 3, 4, 5, 6, 7, 8, 9, 10], [0, 1, 2, 3, 4, 5, 6, 7, 8, 9, 10, 11], [0, 1, 2, 3, 4, 5, 6, 7, 8, 9, 10, 11, 12], [0, 1, 2, 3, 4, 5, 6, 7, 8, 9, 10, 11, 12, 13], [0, 1, 2, 3, 4, 5, 6, 7, 8, 9, 10, 11, 12, 13, 14], [0, 1, 2, 3, 4, 5, 6, 7, 8, 9, 10, 11, 12, 13, 14, 15], [0, 1, 2, 3, 4, 5, 6, 7, 8, 9, 10, 11, 12, 13, 14, 15], [0, 1, 2, 3, 4, 5, 6, 7, 8, 9, 10, 11, 12, 13, 14, 15, 17], [0, 1, 2, 3, 4, 5, 6, 7, 8, 9, 10, 11, 12, 13, 14, 15, 16, 17, 18], [0, 1, 2, 3, 4, 5, 6, 7, 8, 9, 10, 11, 12, 13, 14, 15, 16, 17, 18, 19], [0, 1, 2, 3, 4, 5, 6, 7, 8, 9, 10, 11, 12, 13, 14, 15, 16, 17, 18, 19, 20]]) (nthL [[], [0], [1], [2], [3], [3, 4], [3, 5], [3, 6], [3, 7], [8], [9], [9, 10], [9, 11], [9, 12], [9, 13], [14], [15], [15], [15], [15], [15], [15, 20]]) (nthK [.val (.agg #[(.int .i64 p0.Kind), (.int .i64 p0.Path), (.int .i64 p0.Number), (.int .i64 p0.Of), (.int .i64 p0.From), (.slice a0_5 p0.Data.length c0_5), (.bool p0.Fin), (.int .i64 p0.Seen), (.int .i64 p0.Limit)]), .val (.bool x3), .val (.bool (!x3)), .val (.bool false), .val (.pointer (some ⟨g1, 1, none⟩)), .val (.int .i64 p0.Path), .val (.bool x9), .val (.bool (!x9)), .val (.bool (!x9)), .val (.bool false), .val (.pointer (some ⟨g1, 2, none⟩)), .val (.int .i64 p0.Number), .val (.bool x15), .val (.bool (!x15)), .val (.bool (!x15)), .val (.bool true), .val undef, .val undef, .val undef, .val undef, .val undef, .val (.bool true)]) [⟨none, none, [0, 5, 11], [], fun _ => bl g1 #[(.int .i64 p0.Kind), (.int .i64 p0.Path), (.int .i64 p0.Number), (.int .i64 p0.Of), (.int .i64 p0.From), (.slice a0_5 p0.Data.length c0_5), (.bool p0.Fin), (.int .i64 p0.Seen), (.int .i64 p0.Limit)] 41⟩] (by kernel_rfl) (by kernel_rfl) (by kernel_rfl) (H := G) rfl ⟨?_, ?_, ?_, ?_, ?_, ?_, ?_, ?_, ?_, ?_, ?_, ?_, ?_, ?_, ?_, ?_, ?_, ?_, ?_, ?_, ?_, ?_, trivial⟩ ?_
      · intro Q ρ I1 H hI1 hk hpost
        have hc := Mem.le.refl I1
        refine lda 0 ya41 rfl rfl rfl rfl rfl ?_
        refine WL.nil ?_
        exact hpost _ _ hc rfl _ (fun _ hd => by obtain rfl := Option.some.inj hd; exact ⟨rfl, trivial⟩)
      · intro Q ρ I1 H hI1 hk hpost
        obtain ⟨_, -⟩ := hk
        replace hp0_5 := hp0_5.up hI1
        have hc := Mem.le.refl I1
        refine call cl62 rfl rfl (W62 e4 hp0_5) (fun _ J5 _ hJ6 q7 => ?_)
        have hc := hc.trans hJ6
        replace hp0_5 := hp0_5.up hJ6
        obtain ⟨rfl, rfl⟩ := q7
        refine WL.nil ?_
        exact hpost _ _ hc rfl _ (fun _ hd => by obtain rfl := Option.some.inj hd; exact ⟨rfl, trivial⟩)
      · intro Q ρ I1 H hI1 hk hpost
        obtain ⟨_, -⟩ := hk
        have hc := Mem.le.refl I1
        refine nt rfl rfl ?_
        refine WL.nil ?_
        exact hpost _ _ hc rfl _ (fun _ hd => by obtain rfl := Option.some.inj hd; exact ⟨rfl, trivial⟩)
      · intro Q ρ I1 H hI1 hk hpost
        obtain ⟨_, -⟩ := hk
        have hc := Mem.le.refl I1
        refine mv rfl rfl ?_
        refine WL.nil ?_
        exact hpost _ _ hc (bt1n k8) _ (fun _ hd => by obtain rfl := Option.some.inj hd; exact ⟨rfl, trivial⟩)
      · intro Q ρ I1 H hI1 hk hpost
        obtain ⟨_, -⟩ := hk
        have hc := Mem.le.refl I1
        refine WL.on rfl rfl ?_
        refine fa fl41_1 rfl rfl ?_
        refine WL.nil ?_
        exact hpost _ _ hc rfl _ (fun _ hd => by obtain rfl := Option.some.inj hd; exact ⟨rfl, trivial⟩)
      · intro Q ρ I1 H hI1 hk hpost
        obtain ⟨_, _, -⟩ := hk
        have hc := Mem.le.refl I1
        refine WL.on rfl rfl ?_
        refine ld 0 na3 rfl rfl rfl rfl ?_
        refine WL.nil ?_
        exact hpost _ _ hc rfl _ (fun _ hd => by obtain rfl := Option.some.inj hd; exact ⟨rfl, trivial⟩)
      · intro Q ρ I1 H hI1 hk hpost
        obtain ⟨_, _, -⟩ := hk
        have hc := Mem.le.refl I1
        refine WL.on rfl rfl ?_
        refine call cl63 rfl rfl (W63 e10) (fun _ J11 _ hJ12 q13 => ?_)
        have hc := hc.trans hJ12
        obtain ⟨rfl, rfl⟩ := q13
        refine WL.nil ?_
        exact hpost _ _ hc rfl _ (fun _ hd => by obtain rfl := Option.some.inj hd; exact ⟨rfl, trivial⟩)
      · intro Q ρ I1 H hI1 hk hpost
        obtain ⟨_, _, -⟩ := hk
        have hc := Mem.le.refl I1
        refine WL.on rfl rfl ?_
        refine nt rfl rfl ?_
        refine WL.nil ?_
        exact hpost _ _ hc rfl _ (fun _ hd => by obtain rfl := Option.some.inj hd; exact ⟨rfl, trivial⟩)
      · intro Q ρ I1 H hI1 hk hpost
        obtain ⟨_, _, -⟩ := hk
        have hc := Mem.le.refl I1
        refine pkF rfl rfl rfl ?_
        refine WL.nil ?_
        exact hpost _ _ hc rfl _ (fun _ hd => by obtain rfl := Option.some.inj hd; exact ⟨rfl, trivial⟩)
      · intro Q ρ I1 H hI1 hk hpost
        obtain ⟨_, -⟩ := hk
        have hc := Mem.le.refl I1
        refine mv rfl rfl ?_
        refine WL.nil ?_
        exact hpost _ _ hc (bt1n k14) _ (fun _ hd => by obtain rfl := Option.some.inj hd; exact ⟨rfl, trivial⟩)
      · intro Q ρ I1 H hI1 hk hpost
        obtain ⟨_, -⟩ := hk
        have hc := Mem.le.refl I1
        refine WL.on rfl rfl ?_
        refine fa fl41_2 rfl rfl ?_
        refine WL.nil ?_
        exact hpost _ _ hc rfl _ (fun _ hd => by obtain rfl := Option.some.inj hd; exact ⟨rfl, trivial⟩)
      · intro Q ρ I1 H hI1 hk hpost
        obtain ⟨_, _, -⟩ := hk
        have hc := Mem.le.refl I1
        refine WL.on rfl rfl ?_
        refine ld 0 na3 rfl rfl rfl rfl ?_
        refine WL.nil ?_
        exact hpost _ _ hc rfl _ (fun _ hd => by obtain rfl := Option.some.inj hd; exact ⟨rfl, trivial⟩)
      · intro Q ρ I1 H hI1 hk hpost
        obtain ⟨_, _, -⟩ := hk
        have hc := Mem.le.refl I1
        refine WL.on rfl rfl ?_
        refine call cl63 rfl rfl (W63 e16) (fun _ J17 _ hJ18 q19 => ?_)
        have hc := hc.trans hJ18
        obtain ⟨rfl, rfl⟩ := q19
        refine WL.nil ?_
        exact hpost _ _ hc rfl _ (fun _ hd => by obtain rfl := Option.some.inj hd; exact ⟨rfl, trivial⟩)
      · intro Q ρ I1 H hI1 hk hpost
        obtain ⟨_, _, -⟩ := hk
        have hc := Mem.le.refl I1
        refine WL.on rfl rfl ?_
        refine nt rfl rfl ?_
        refine WL.nil ?_
        exact hpost _ _ hc rfl _ (fun _ hd => by obtain rfl := Option.some.inj hd; exact ⟨rfl, trivial⟩)
      · intro Q ρ I1 H hI1 hk hpost
        obtain ⟨_, _, -⟩ := hk
        have hc := Mem.le.refl I1
        refine pkF rfl rfl rfl ?_
        refine WL.nil ?_
        exact hpost _ _ hc rfl _ (fun _ hd => by obtain rfl := Option.some.inj hd; exact ⟨rfl, trivial⟩)
      · intro Q ρ I1 H hI1 hk hpost
        obtain ⟨_, -⟩ := hk
        have hc := Mem.le.refl I1
        refine mv rfl rfl ?_
        refine WL.nil ?_
        exact hpost _ _ hc (bf1n k20) _ (fun _ hd => by obtain rfl := Option.some.inj hd; exact ⟨rfl, trivial⟩)
      · intro Q ρ I1 H hI1 hk hpost
        obtain ⟨_, -⟩ := hk
        have hc := Mem.le.refl I1
        refine WL.no rfl rfl rfl rfl ?_
        refine WL.nil ?_
        exact hpost _ _ hc rfl _ (fun _ hd => by obtain rfl := Option.some.inj hd; exact ⟨rfl, trivial⟩)
      · intro Q ρ I1 H hI1 hk hpost
        obtain ⟨_, -⟩ := hk
        have hc := Mem.le.refl I1
        refine WL.no rfl rfl rfl rfl ?_
        refine WL.nil ?_
        exact hpost _ _ hc rfl _ (fun _ hd => by obtain rfl := Option.some.inj hd; exact ⟨rfl, trivial⟩)
      · intro Q ρ I1 H hI1 hk hpost
        obtain ⟨_, -⟩ := hk
        have hc := Mem.le.refl I1
        refine WL.no rfl rfl rfl rfl ?_
        refine WL.nil ?_
        exact hpost _ _ hc rfl _ (fun _ hd => by obtain rfl := Option.some.inj hd; exact ⟨rfl, trivial⟩)
      · intro Q ρ I1 H hI1 hk hpost
        obtain ⟨_, -⟩ := hk
        have hc := Mem.le.refl I1
        refine WL.no rfl rfl rfl rfl ?_
        refine WL.nil ?_
        exact hpost _ _ hc rfl _ (fun _ hd => by obtain rfl := Option.some.inj hd; exact ⟨rfl, trivial⟩)
      · intro Q ρ I1 H hI1 hk hpost
        obtain ⟨_, -⟩ := hk
        have hc := Mem.le.refl I1
        refine WL.no rfl rfl rfl rfl ?_
        refine WL.nil ?_
        exact hpost _ _ hc rfl _ (fun _ hd => by obtain rfl := Option.some.inj hd; exact ⟨rfl, trivial⟩)
      · intro Q ρ I1 H hI1 hk hpost
        obtain ⟨_, _, -⟩ := hk
        have hc := Mem.le.refl I1
        refine pkT rfl rfl rfl ?_
        refine WL.nil ?_
        exact hpost _ _ hc rfl _ (fun _ hd => by obtain rfl := Option.some.inj hd; exact ⟨rfl, trivial⟩)
      rintro ρ J37 hJ38 -
      refine WX.sub (r := [(24, (.bool true))]) ?_ ⟨rfl, trivial⟩
      refine WX.is (H := bl g1 #[(.int .i64 p0.Kind), (.int .i64 p0.Path), (.int .i64 p0.Number), (.int .i64 p0.Of), (.int .i64 p0.From), (.slice a0_5 p0.Data.length c0_5), (.bool p0.Fin), (.int .i64 p0.Seen), (.int .i64 p0.Limit)] 41 :: G) rfl ?_
      have hI := hI.trans hJ38
      replace hp0_5 := hp0_5.up hJ38
      refine WX.then_ ?_
      refine WC.cond rfl (fun _ => ?_) (fun k => by cases k)
      refine WC.seq ?_
      refine WC.region ?_
      refine asg rfl rfl ?_
      refine WL.del 0 ?_
      refine WL.next ?_
      refine WC.ret ?_
      refine WX.then_ret ?_
      cases h
      exact ret1 Try.results32 rfl hI ⟨rfl, rfl⟩
    refine WC.drawn mo (nthL [[], [0], [0, 1], [0, 1, 2], [0, 1, 2, 3], [0, 1, 2, 3, 4], [0, 1, 2, 3, 4, 5], [0, 1, 2, 3, 4, 5, 6], [0, 1, 2, 3, 4, 5, 6, 7], [0, 1, 2, 3, 4, 5, 6, 7, 8], [0, 1, 2, 3, 4, 5, 6, 7, 8, 9], [0, 1, 2, 3, 4, 5, 6, 7, 8, 9, 10], [0, 1, 2, 3, 4, 5, 6, 7, 8, 9, 10, 11], [0, 1, 2, 3, 4, 5, 6, 7, 8, 9, 10, 11, 12], [0, 1, 2, 3, 4, 5, 6, 7, 8, 9, 10, 11, 12, 13], [0, 1, 2, 3, 4, 5, 6, 7, 8, 9, 10, 11, 12, 13, 14], [0, 1, 2, 3, 4, 5, 6, 7, 8, 9, 10, 11, 12, 13, 14, 15], [0, 1, 2, 3, 4, 5, 6, 7, 8, 9, 10, 11, 12, 13, 14, 15], [0, 1, 2, 3, 4, 5, 6, 7, 8, 9, 10, 11, 12, 13, 14, 15, 17], [0, 1, 2, 3, 4, 5, 6, 7, 8, 9, 10, 11, 12, 13, 14, 15, 16, 17, 18], [0, 1, 2, 3, 4, 5, 6, 7, 8, 9, 10, 11, 12, 13, 14, 15, 16, 17, 18, 19], [0, 1, 2, 3, 4, 5, 6, 7, 8, 9, 10, 11, 12, 13, 14, 15, 16, 17, 18, 19, 20]]) (nthL [[], [0], [1], [2], [3], [3, 4], [3, 5], [3, 6], [3, 7], [8], [9], [9], [9], [9], [9, 13], [14], [15], [15], [15], [15], [15], [15, 20]]) (nthK [.val (.agg #[(.int .i64 p0.Kind), (.int .i64 p0.Path), (.int .i64 p0.Number), (.int .i64 p0.Of), (.int .i64 p0.From), (.slice a0_5 p0.Data.length c0_5), (.bool p0.Fin), (.int .i64 p0.Seen), (.int .i64 p0.Limit)]), .val (.bool x3), .val (.bool (!x3)), .val (.bool false), .val (.pointer (some ⟨g1, 1, none⟩)), .val (.int .i64 p0.Path), .val (.bool x9), .val (.bool (!x9)), .val (.bool (!x9)), .val (.bool true), .val undef, .val undef, .val undef, .val undef, .val (.bool true), .val (.bool true), .val undef, .val undef, .val undef, .val undef, .val undef, .val (.bool true)]) [⟨none, none, [0, 5], [], fun _ => bl g1 #[(.int .i64 p0.Kind), (.int .i64 p0.Path), (.int .i64 p0.Number), (.int .i64 p0.Of), (.int .i64 p0.From), (.slice a0_5 p0.Data.length c0_5), (.bool p0.Fin), (.int .i64 p0.Seen), (.int .i64 p0.Limit)] 41⟩] (by kernel_rfl) (by kernel_rfl) (by kernel_rfl) (H := G) rfl ⟨?_, ?_, ?_, ?_, ?_, ?_, ?_, ?_, ?_, ?_, ?_, ?_, ?_, ?_, ?_, ?_, ?_, ?_, ?_, ?_, ?_, ?_, trivial⟩ ?_
    · intro Q ρ I1 H hI1 hk hpost
      have hc := Mem.le.refl I1
      refine lda 0 ya41 rfl rfl rfl rfl rfl ?_
      refine WL.nil ?_
      exact hpost _ _ hc rfl _ (fun _ hd => by obtain rfl := Option.some.inj hd; exact ⟨rfl, trivial⟩)
    · intro Q ρ I1 H hI1 hk hpost
      obtain ⟨_, -⟩ := hk
      replace hp0_5 := hp0_5.up hI1
      have hc := Mem.le.refl I1
      refine call cl62 rfl rfl (W62 e4 hp0_5) (fun _ J5 _ hJ6 q7 => ?_)
      have hc := hc.trans hJ6
      replace hp0_5 := hp0_5.up hJ6
      obtain ⟨rfl, rfl⟩ := q7
      refine WL.nil ?_
      exact hpost _ _ hc rfl _ (fun _ hd => by obtain rfl := Option.some.inj hd; exact ⟨rfl, trivial⟩)
    · intro Q ρ I1 H hI1 hk hpost
      obtain ⟨_, -⟩ := hk
      have hc := Mem.le.refl I1
      refine nt rfl rfl ?_
      refine WL.nil ?_
      exact hpost _ _ hc rfl _ (fun _ hd => by obtain rfl := Option.some.inj hd; exact ⟨rfl, trivial⟩)
    · intro Q ρ I1 H hI1 hk hpost
      obtain ⟨_, -⟩ := hk
      have hc := Mem.le.refl I1
      refine mv rfl rfl ?_
      refine WL.nil ?_
      exact hpost _ _ hc (bt1n k8) _ (fun _ hd => by obtain rfl := Option.some.inj hd; exact ⟨rfl, trivial⟩)
    · intro Q ρ I1 H hI1 hk hpost
      obtain ⟨_, -⟩ := hk
      have hc := Mem.le.refl I1
      refine WL.on rfl rfl ?_
      refine fa fl41_1 rfl rfl ?_
      refine WL.nil ?_
      exact hpost _ _ hc rfl _ (fun _ hd => by obtain rfl := Option.some.inj hd; exact ⟨rfl, trivial⟩)
    · intro Q ρ I1 H hI1 hk hpost
      obtain ⟨_, _, -⟩ := hk
      have hc := Mem.le.refl I1
      refine WL.on rfl rfl ?_
      refine ld 0 na3 rfl rfl rfl rfl ?_
      refine WL.nil ?_
      exact hpost _ _ hc rfl _ (fun _ hd => by obtain rfl := Option.some.inj hd; exact ⟨rfl, trivial⟩)
    · intro Q ρ I1 H hI1 hk hpost
      obtain ⟨_, _, -⟩ := hk
      have hc := Mem.le.refl I1
      refine WL.on rfl rfl ?_
      refine call cl63 rfl rfl (W63 e10) (fun _ J11 _ hJ12 q13 => ?_)
      have hc := hc.trans hJ12
      obtain ⟨rfl, rfl⟩ := q13
      refine WL.nil ?_
      exact hpost _ _ hc rfl _ (fun _ hd => by obtain rfl := Option.some.inj hd; exact ⟨rfl, trivial⟩)
    · intro Q ρ I1 H hI1 hk hpost
      obtain ⟨_, _, -⟩ := hk
      have hc := Mem.le.refl I1
      refine WL.on rfl rfl ?_
      refine nt rfl rfl ?_
      refine WL.nil ?_
      exact hpost _ _ hc rfl _ (fun _ hd => by obtain rfl := Option.some.inj hd; exact ⟨rfl, trivial⟩)
    · intro Q ρ I1 H hI1 hk hpost
      obtain ⟨_, _, -⟩ := hk
      have hc := Mem.le.refl I1
      refine pkF rfl rfl rfl ?_
      refine WL.nil ?_
      exact hpost _ _ hc rfl _ (fun _ hd => by obtain rfl := Option.some.inj hd; exact ⟨rfl, trivial⟩)
    · intro Q ρ I1 H hI1 hk hpost
      obtain ⟨_, -⟩ := hk
      have hc := Mem.le.refl I1
      refine mv rfl rfl ?_
      refine WL.nil ?_
      exact hpost _ _ hc (bf1n k14) _ (fun _ hd => by obtain rfl := Option.some.inj hd; exact ⟨rfl, trivial⟩)
    · intro Q ρ I1 H hI1 hk hpost
      obtain ⟨_, -⟩ := hk
      have hc := Mem.le.refl I1
      refine WL.no rfl rfl rfl rfl ?_
      refine WL.nil ?_
      exact hpost _ _ hc rfl _ (fun _ hd => by obtain rfl := Option.some.inj hd; exact ⟨rfl, trivial⟩)
    · intro Q ρ I1 H hI1 hk hpost
      obtain ⟨_, -⟩ := hk
      have hc := Mem.le.refl I1
      refine WL.no rfl rfl rfl rfl ?_
      refine WL.nil ?_
      exact hpost _ _ hc rfl _ (fun _ hd => by obtain rfl := Option.some.inj hd; exact ⟨rfl, trivial⟩)
    · intro Q ρ I1 H hI1 hk hpost
      obtain ⟨_, -⟩ := hk
      have hc := Mem.le.refl I1
      refine WL.no rfl rfl rfl rfl ?_
      refine WL.nil ?_
      exact hpost _ _ hc rfl _ (fun _ hd => by obtain rfl := Option.some.inj hd; exact ⟨rfl, trivial⟩)
    · intro Q ρ I1 H hI1 hk hpost
      obtain ⟨_, -⟩ := hk
      have hc := Mem.le.refl I1
      refine WL.no rfl rfl rfl rfl ?_
      refine WL.nil ?_
      exact hpost _ _ hc rfl _ (fun _ hd => by obtain rfl := Option.some.inj hd; exact ⟨rfl, trivial⟩)
    · intro Q ρ I1 H hI1 hk hpost
      obtain ⟨_, _, -⟩ := hk
      have hc := Mem.le.refl I1
      refine pkT rfl rfl rfl ?_
      refine WL.nil ?_
      exact hpost _ _ hc rfl _ (fun _ hd => by obtain rfl := Option.some.inj hd; exact ⟨rfl, trivial⟩)
    · intro Q ρ I1 H hI1 hk hpost
      obtain ⟨_, -⟩ := hk
      have hc := Mem.le.refl I1
      refine mv rfl rfl ?_
      refine WL.nil ?_
      exact hpost _ _ hc rfl _ (fun _ hd => by obtain rfl := Option.some.inj hd; exact ⟨rfl, trivial⟩)
    · intro Q ρ I1 H hI1 hk hpost
      obtain ⟨_, -⟩ := hk
      have hc := Mem.le.refl I1
      refine WL.no rfl rfl rfl rfl ?_
      refine WL.nil ?_
      exact hpost _ _ hc rfl _ (fun _ hd => by obtain rfl := Option.some.inj hd; exact ⟨rfl, trivial⟩)
    · intro Q ρ I1 H hI1 hk hpost
      obtain ⟨_, -⟩ := hk
      have hc := Mem.le.refl I1
      refine WL.no rfl rfl rfl rfl ?_
      refine WL.nil ?_
      exact hpost _ _ hc rfl _ (fun _ hd => by obtain rfl := Option.some.inj hd; exact ⟨rfl, trivial⟩)
    · intro Q ρ I1 H hI1 hk hpost
      obtain ⟨_, -⟩ := hk
      have hc := Mem.le.refl I1
      refine WL.no rfl rfl rfl rfl ?_
      refine WL.nil ?_
      exact hpost _ _ hc rfl _ (fun _ hd => by obtain rfl := Option.some.inj hd; exact ⟨rfl, trivial⟩)
    · intro Q ρ I1 H hI1 hk hpost
      obtain ⟨_, -⟩ := hk
      have hc := Mem.le.refl I1
      refine WL.no rfl rfl rfl rfl ?_
      refine WL.nil ?_
      exact hpost _ _ hc rfl _ (fun _ hd => by obtain rfl := Option.some.inj hd; exact ⟨rfl, trivial⟩)
    · intro Q ρ I1 H hI1 hk hpost
      obtain ⟨_, -⟩ := hk
      have hc := Mem.le.refl I1
      refine WL.no rfl rfl rfl rfl ?_
      refine WL.nil ?_
      exact hpost _ _ hc rfl _ (fun _ hd => by obtain rfl := Option.some.inj hd; exact ⟨rfl, trivial⟩)
    · intro Q ρ I1 H hI1 hk hpost
      obtain ⟨_, _, -⟩ := hk
      have hc := Mem.le.refl I1
      refine pkT rfl rfl rfl ?_
      refine WL.nil ?_
      exact hpost _ _ hc rfl _ (fun _ hd => by obtain rfl := Option.some.inj hd; exact ⟨rfl, trivial⟩)
    rintro ρ J39 hJ40 -
    refine WX.sub (r := [(24, (.bool true))]) ?_ ⟨rfl, trivial⟩
    refine WX.is (H := bl g1 #[(.int .i64 p0.Kind), (.int .i64 p0.Path), (.int .i64 p0.Number), (.int .i64 p0.Of), (.int .i64 p0.From), (.slice a0_5 p0.Data.length c0_5), (.bool p0.Fin), (.int .i64 p0.Seen), (.int .i64 p0.Limit)] 41 :: G) rfl ?_
    have hI := hI.trans hJ40
    replace hp0_5 := hp0_5.up hJ40
    refine WX.then_ ?_
    refine WC.cond rfl (fun _ => ?_) (fun k => by cases k)
    refine WC.seq ?_
    refine WC.region ?_
    refine asg rfl rfl ?_
    refine WL.del 0 ?_
    refine WL.next ?_
    refine WC.ret ?_
    refine WX.then_ret ?_
    cases h
    exact ret1 Try.results32 rfl hI ⟨rfl, rfl⟩
  refine WC.drawn mo (nthL [[], [0], [0, 1], [0, 1, 2], [0, 1, 2, 3], [0, 1, 2, 3, 4], [0, 1, 2, 3, 4, 5], [0, 1, 2, 3, 4, 5, 6], [0, 1, 2, 3, 4, 5, 6, 7], [0, 1, 2, 3, 4, 5, 6, 7, 8], [0, 1, 2, 3, 4, 5, 6, 7, 8, 9], [0, 1, 2, 3, 4, 5, 6, 7, 8, 9, 10], [0, 1, 2, 3, 4, 5, 6, 7, 8, 9, 10, 11], [0, 1, 2, 3, 4, 5, 6, 7, 8, 9, 10, 11, 12], [0, 1, 2, 3, 4, 5, 6, 7, 8, 9, 10, 11, 12, 13], [0, 1, 2, 3, 4, 5, 6, 7, 8, 9, 10, 11, 12, 13, 14], [0, 1, 2, 3, 4, 5, 6, 7, 8, 9, 10, 11, 12, 13, 14, 15], [0, 1, 2, 3, 4, 5, 6, 7, 8, 9, 10, 11, 12, 13, 14, 15], [0, 1, 2, 3, 4, 5, 6, 7, 8, 9, 10, 11, 12, 13, 14, 15, 17], [0, 1, 2, 3, 4, 5, 6, 7, 8, 9, 10, 11, 12, 13, 14, 15, 16, 17, 18], [0, 1, 2, 3, 4, 5, 6, 7, 8, 9, 10, 11, 12, 13, 14, 15, 16, 17, 18, 19], [0, 1, 2, 3, 4, 5, 6, 7, 8, 9, 10, 11, 12, 13, 14, 15, 16, 17, 18, 19, 20]]) (nthL [[], [0], [1], [2], [3], [3], [3], [3], [3, 7], [8], [9], [9], [9], [9], [9, 13], [14], [15], [15], [15], [15], [15], [15, 20]]) (nthK [.val (.agg #[(.int .i64 p0.Kind), (.int .i64 p0.Path), (.int .i64 p0.Number), (.int .i64 p0.Of), (.int .i64 p0.From), (.slice a0_5 p0.Data.length c0_5), (.bool p0.Fin), (.int .i64 p0.Seen), (.int .i64 p0.Limit)]), .val (.bool x3), .val (.bool (!x3)), .val (.bool true), .val undef, .val undef, .val undef, .val undef, .val (.bool true), .val (.bool true), .val undef, .val undef, .val undef, .val undef, .val (.bool true), .val (.bool true), .val undef, .val undef, .val undef, .val undef, .val undef, .val (.bool true)]) [⟨none, none, [0], [], fun _ => bl g1 #[(.int .i64 p0.Kind), (.int .i64 p0.Path), (.int .i64 p0.Number), (.int .i64 p0.Of), (.int .i64 p0.From), (.slice a0_5 p0.Data.length c0_5), (.bool p0.Fin), (.int .i64 p0.Seen), (.int .i64 p0.Limit)] 41⟩] (by kernel_rfl) (by kernel_rfl) (by kernel_rfl) (H := G) rfl ⟨?_, ?_, ?_, ?_, ?_, ?_, ?_, ?_, ?_, ?_, ?_, ?_, ?_, ?_, ?_, ?_, ?_, ?_, ?_, ?_, ?_, ?_, trivial⟩ ?_
  · intro Q ρ I1 H hI1 hk hpost
    have hc := Mem.le.refl I1
    refine lda 0 ya41 rfl rfl rfl rfl rfl ?_
    refine WL.nil ?_
    exact hpost _ _ hc rfl _ (fun _ hd => by obtain rfl := Option.some.inj hd; exact ⟨rfl, trivial⟩)
  · intro Q ρ I1 H hI1 hk hpost
    obtain ⟨_, -⟩ := hk
    replace hp0_5 := hp0_5.up hI1
    have hc := Mem.le.refl I1
    refine call cl62 rfl rfl (W62 e4 hp0_5) (fun _ J5 _ hJ6 q7 => ?_)
    have hc := hc.trans hJ6
    replace hp0_5 := hp0_5.up hJ6
    obtain ⟨rfl, rfl⟩ := q7
    refine WL.nil ?_
    exact hpost _ _ hc rfl _ (fun _ hd => by obtain rfl := Option.some.inj hd; exact ⟨rfl, trivial⟩)
  · intro Q ρ I1 H hI1 hk hpost
    obtain ⟨_, -⟩ := hk
    have hc := Mem.le.refl I1
    refine nt rfl rfl ?_
    refine WL.nil ?_
    exact hpost _ _ hc rfl _ (fun _ hd => by obtain rfl := Option.some.inj hd; exact ⟨rfl, trivial⟩)
  · intro Q ρ I1 H hI1 hk hpost
    obtain ⟨_, -⟩ := hk
    have hc := Mem.le.refl I1
    refine mv rfl rfl ?_
    refine WL.nil ?_
    exact hpost _ _ hc (bf1n k8) _ (fun _ hd => by obtain rfl := Option.some.inj hd; exact ⟨rfl, trivial⟩)
  · intro Q ρ I1 H hI1 hk hpost
    obtain ⟨_, -⟩ := hk
    have hc := Mem.le.refl I1
    refine WL.no rfl rfl rfl rfl ?_
    refine WL.nil ?_
    exact hpost _ _ hc rfl _ (fun _ hd => by obtain rfl := Option.some.inj hd; exact ⟨rfl, trivial⟩)
  · intro Q ρ I1 H hI1 hk hpost
    obtain ⟨_, -⟩ := hk
    have hc := Mem.le.refl I1
    refine WL.no rfl rfl rfl rfl ?_
    refine WL.nil ?_
    exact hpost _ _ hc rfl _ (fun _ hd => by obtain rfl := Option.some.inj hd; exact ⟨rfl, trivial⟩)
  · intro Q ρ I1 H hI1 hk hpost
    obtain ⟨_, -⟩ := hk
    have hc := Mem.le.refl I1
    refine WL.no rfl rfl rfl rfl ?_
    refine WL.nil ?_
    exact hpost _ _ hc rfl _ (fun _ hd => by obtain rfl := Option.some.inj hd; exact ⟨rfl, trivial⟩)
  · intro Q ρ I1 H hI1 hk hpost
    obtain ⟨_, -⟩ := hk
    have hc := Mem.le.refl I1
    refine WL.no rfl rfl rfl rfl ?_
    refine WL.nil ?_
    exact hpost _ _ hc rfl _ (fun _ hd => by obtain rfl := Option.some.inj hd; exact ⟨rfl, trivial⟩)
  · intro Q ρ I1 H hI1 hk hpost
    obtain ⟨_, _, -⟩ := hk
    have hc := Mem.le.refl I1
    refine pkT rfl rfl rfl ?_
    refine WL.nil ?_
    exact hpost _ _ hc rfl _ (fun _ hd => by obtain rfl := Option.some.inj hd; exact ⟨rfl, trivial⟩)
  · intro Q ρ I1 H hI1 hk hpost
    obtain ⟨_, -⟩ := hk
    have hc := Mem.le.refl I1
    refine mv rfl rfl ?_
    refine WL.nil ?_
    exact hpost _ _ hc rfl _ (fun _ hd => by obtain rfl := Option.some.inj hd; exact ⟨rfl, trivial⟩)
  · intro Q ρ I1 H hI1 hk hpost
    obtain ⟨_, -⟩ := hk
    have hc := Mem.le.refl I1
    refine WL.no rfl rfl rfl rfl ?_
    refine WL.nil ?_
    exact hpost _ _ hc rfl _ (fun _ hd => by obtain rfl := Option.some.inj hd; exact ⟨rfl, trivial⟩)
  · intro Q ρ I1 H hI1 hk hpost
    obtain ⟨_, -⟩ := hk
    have hc := Mem.le.refl I1
    refine WL.no rfl rfl rfl rfl ?_
    refine WL.nil ?_
    exact hpost _ _ hc rfl _ (fun _ hd => by obtain rfl := Option.some.inj hd; exact ⟨rfl, trivial⟩)
  · intro Q ρ I1 H hI1 hk hpost
    obtain ⟨_, -⟩ := hk
    have hc := Mem.le.refl I1
    refine WL.no rfl rfl rfl rfl ?_
    refine WL.nil ?_
    exact hpost _ _ hc rfl _ (fun _ hd => by obtain rfl := Option.some.inj hd; exact ⟨rfl, trivial⟩)
  · intro Q ρ I1 H hI1 hk hpost
    obtain ⟨_, -⟩ := hk
    have hc := Mem.le.refl I1
    refine WL.no rfl rfl rfl rfl ?_
    refine WL.nil ?_
    exact hpost _ _ hc rfl _ (fun _ hd => by obtain rfl := Option.some.inj hd; exact ⟨rfl, trivial⟩)
  · intro Q ρ I1 H hI1 hk hpost
    obtain ⟨_, _, -⟩ := hk
    have hc := Mem.le.refl I1
    refine pkT rfl rfl rfl ?_
    refine WL.nil ?_
    exact hpost _ _ hc rfl _ (fun _ hd => by obtain rfl := Option.some.inj hd; exact ⟨rfl, trivial⟩)
  · intro Q ρ I1 H hI1 hk hpost
    obtain ⟨_, -⟩ := hk
    have hc := Mem.le.refl I1
    refine mv rfl rfl ?_
    refine WL.nil ?_
    exact hpost _ _ hc rfl _ (fun _ hd => by obtain rfl := Option.some.inj hd; exact ⟨rfl, trivial⟩)
  · intro Q ρ I1 H hI1 hk hpost
    obtain ⟨_, -⟩ := hk
    have hc := Mem.le.refl I1
    refine WL.no rfl rfl rfl rfl ?_
    refine WL.nil ?_
    exact hpost _ _ hc rfl _ (fun _ hd => by obtain rfl := Option.some.inj hd; exact ⟨rfl, trivial⟩)
  · intro Q ρ I1 H hI1 hk hpost
    obtain ⟨_, -⟩ := hk
    have hc := Mem.le.refl I1
    refine WL.no rfl rfl rfl rfl ?_
    refine WL.nil ?_
    exact hpost _ _ hc rfl _ (fun _ hd => by obtain rfl := Option.some.inj hd; exact ⟨rfl, trivial⟩)
  · intro Q ρ I1 H hI1 hk hpost
    obtain ⟨_, -⟩ := hk
    have hc := Mem.le.refl I1
    refine WL.no rfl rfl rfl rfl ?_
    refine WL.nil ?_
    exact hpost _ _ hc rfl _ (fun _ hd => by obtain rfl := Option.some.inj hd; exact ⟨rfl, trivial⟩)
  · intro Q ρ I1 H hI1 hk hpost
    obtain ⟨_, -⟩ := hk
    have hc := Mem.le.refl I1
    refine WL.no rfl rfl rfl rfl ?_
    refine WL.nil ?_
    exact hpost _ _ hc rfl _ (fun _ hd => by obtain rfl := Option.some.inj hd; exact ⟨rfl, trivial⟩)
  · intro Q ρ I1 H hI1 hk hpost
    obtain ⟨_, -⟩ := hk
    have hc := Mem.le.refl I1
    refine WL.no rfl rfl rfl rfl ?_
    refine WL.nil ?_
    exact hpost _ _ hc rfl _ (fun _ hd => by obtain rfl := Option.some.inj hd; exact ⟨rfl, trivial⟩)
  · intro Q ρ I1 H hI1 hk hpost
    obtain ⟨_, _, -⟩ := hk
    have hc := Mem.le.refl I1
    refine pkT rfl rfl rfl ?_
    refine WL.nil ?_
    exact hpost _ _ hc rfl _ (fun _ hd => by obtain rfl := Option.some.inj hd; exact ⟨rfl, trivial⟩)
  rintro ρ J41 hJ42 -
  refine WX.sub (r := [(24, (.bool true))]) ?_ ⟨rfl, trivial⟩
  refine WX.is (H := bl g1 #[(.int .i64 p0.Kind), (.int .i64 p0.Path), (.int .i64 p0.Number), (.int .i64 p0.Of), (.int .i64 p0.From), (.slice a0_5 p0.Data.length c0_5), (.bool p0.Fin), (.int .i64 p0.Seen), (.int .i64 p0.Limit)] 41 :: G) rfl ?_
  have hI := hI.trans hJ42
  replace hp0_5 := hp0_5.up hJ42
  refine WX.then_ ?_
  refine WC.cond rfl (fun _ => ?_) (fun k => by cases k)
  refine WC.seq ?_
  refine WC.region ?_
  refine asg rfl rfl ?_
  refine WL.del 0 ?_
  refine WL.next ?_
  refine WC.ret ?_
  refine WX.then_ret ?_
  cases h
  exact ret1 Try.results32 rfl hI ⟨rfl, rfl⟩
theorem W80 {I : Mem} {G : List Asn} {p0 : Int} {r : Int} (h : vint_Size p0 = some r) :
    CallsS Try.prog 80 #[.int .i64 p0] I (G) (fun v J G' => v = .int .i64 r ∧ G = G') := by
  refine CallsS.enter Try.func80 rfl Try.ntmps80 rfl (fun w0 => ?_)
  have hI := Mem.le.refl I
  unfold vint_Size at h
  refine WC.seq ?_
  refine WC.region ?_
  refine asg rfl rfl ?_
  refine WL.next ?_
  refine WC.seq ?_
  refine WC.block ?_
  refine WC.seq ?_
  refine WC.region ?_
  refine mv rfl rfl ?_
  refine lt rfl rfl rfl ?_
  refine mv rfl rfl ?_
  rcases spl h with ⟨k1, h⟩ | ⟨k1, h⟩
  · skip
    refine WL.rb 6 rfl (bT k1) ?_
    refine WL.no rfl rfl rfl rfl ?_
    refine WL.no rfl rfl rfl rfl ?_
    refine pkT rfl rfl rfl ?_
    refine asg rfl rfl ?_
    refine WL.next ?_
    refine WC.cond rfl (fun _ => ?_) (fun k => by cases k)
    refine WC.seq ?_
    refine WC.region ?_
    refine asg rfl rfl ?_
    refine WL.next ?_
    refine WC.ret ?_
    refine WX.block_ret ?_
    refine WX.then_ret ?_
    cases h
    exact ret1 Try.results80 rfl hI ⟨rfl, rfl⟩
  refine WL.rb 6 rfl (bF k1) ?_
  refine WL.on rfl rfl ?_
  refine mv rfl rfl ?_
  refine WL.on rfl rfl ?_
  refine gt rfl rfl rfl ?_
  refine pkF rfl rfl rfl ?_
  refine asg rfl rfl ?_
  refine WL.next ?_
  refine WC.ite rfl h (fun k2 h => ?_) (fun k2 h => ?_)
  · skip
    refine WC.seq ?_
    refine WC.region ?_
    refine asg rfl rfl ?_
    refine WL.next ?_
    refine WC.ret ?_
    refine WX.block_ret ?_
    refine WX.then_ret ?_
    cases h
    exact ret1 Try.results80 rfl hI ⟨rfl, rfl⟩
  refine WC.seq ?_
  refine WC.region ?_
  refine mv rfl rfl ?_
  refine lt rfl rfl rfl ?_
  refine asg rfl rfl ?_
  refine WL.next ?_
  refine WC.ite rfl h (fun k3 h => ?_) (fun k3 h => ?_)
  · skip
    refine WC.seq ?_
    refine WC.region ?_
    refine asg rfl rfl ?_
    refine WL.next ?_
    refine WC.ret ?_
    refine WX.block_ret ?_
    refine WX.then_ret ?_
    cases h
    exact ret1 Try.results80 rfl hI ⟨rfl, rfl⟩
  refine WC.seq ?_
  refine WC.region ?_
  refine mv rfl rfl ?_
  refine lt rfl rfl rfl ?_
  refine asg rfl rfl ?_
  refine WL.next ?_
  refine WC.ite rfl h (fun k4 h => ?_) (fun k4 h => ?_)
  · skip
    refine WC.seq ?_
    refine WC.region ?_
    refine asg rfl rfl ?_
    refine WL.next ?_
    refine WC.ret ?_
    refine WX.block_ret ?_
    refine WX.then_ret ?_
    cases h
    exact ret1 Try.results80 rfl hI ⟨rfl, rfl⟩
  refine WC.seq ?_
  refine WC.region ?_
  refine mv rfl rfl ?_
  refine lt rfl rfl rfl ?_
  refine asg rfl rfl ?_
  refine WL.next ?_
  refine WC.ite rfl h (fun k5 h => ?_) (fun k5 h => ?_)
  · skip
    refine WC.seq ?_
    refine WC.region ?_
    refine asg rfl rfl ?_
    refine WL.next ?_
    refine WC.ret ?_
    refine WX.block_ret ?_
    refine WX.then_ret ?_
    cases h
    exact ret1 Try.results80 rfl hI ⟨rfl, rfl⟩
  refine WC.skip ?_
  refine WX.block_normal ?_
  refine WX.then_ ?_
  refine WC.seq ?_
  refine WC.region ?_
  refine asg rfl rfl ?_
  refine WL.next ?_
  refine WC.ret ?_
  cases h
  exact ret1 Try.results80 rfl hI ⟨rfl, rfl⟩
theorem W81 {I : Mem} {G : List Asn} {p0 : Int} {r : UInt8} (h : vint_mark p0 = some r) :
    CallsS Try.prog 81 #[.int .i64 p0] I (G) (fun v J G' => v = .int .u8 (r.toNat : Int) ∧ G = G') := by
  refine CallsS.enter Try.func81 rfl Try.ntmps81 rfl (fun w0 => ?_)
  have hI := Mem.le.refl I
  unfold vint_mark at h
  refine WC.seq ?_
  refine WC.region ?_
  refine asg rfl rfl ?_
  refine WL.next ?_
  refine WC.seq ?_
  refine WC.seq ?_
  refine WC.region ?_
  refine mv rfl rfl ?_
  refine WL.next ?_
  refine WC.block ?_
  refine WC.seq ?_
  refine WC.region ?_
  refine eq rfl rfl rfl ?_
  refine asg rfl rfl ?_
  refine WL.next ?_
  refine WC.ite rfl h (fun k1 h => ?_) (fun k1 h => ?_)
  · skip
    refine WC.seq ?_
    refine WC.region ?_
    refine asg rfl rfl ?_
    refine WL.next ?_
    refine WC.ret ?_
    refine WX.block_ret ?_
    refine WX.then_ret ?_
    cases h
    exact ret1 Try.results81 rfl hI ⟨rfl, rfl⟩
  refine WC.seq ?_
  refine WC.region ?_
  refine eq rfl rfl rfl ?_
  refine asg rfl rfl ?_
  refine WL.next ?_
  refine WC.ite rfl h (fun k2 h => ?_) (fun k2 h => ?_)
  · skip
    refine WC.seq ?_
    refine WC.region ?_
    refine asg rfl rfl ?_
    refine WL.next ?_
    refine WC.ret ?_
    refine WX.block_ret ?_
    refine WX.then_ret ?_
    cases h
    exact ret1 Try.results81 rfl hI ⟨rfl, rfl⟩
  refine WC.seq ?_
  refine WC.region ?_
  refine eq rfl rfl rfl ?_
  refine asg rfl rfl ?_
  refine WL.next ?_
  refine WC.ite rfl h (fun k3 h => ?_) (fun k3 h => ?_)
  · skip
    refine WC.seq ?_
    refine WC.region ?_
    refine asg rfl rfl ?_
    refine WL.next ?_
    refine WC.ret ?_
    refine WX.block_ret ?_
    refine WX.then_ret ?_
    cases h
    exact ret1 Try.results81 rfl hI ⟨rfl, rfl⟩
  refine WC.skip ?_
  refine WX.block_normal ?_
  refine WX.then_ ?_
  refine WC.seq ?_
  refine WC.region ?_
  refine asg rfl rfl ?_
  refine WL.next ?_
  refine WC.ret ?_
  cases h
  exact ret1 Try.results81 rfl hI ⟨rfl, rfl⟩
theorem W59 {I : Mem} {G : List Asn} {p0 : Int} {r : (List UInt8)} (h : vint_Put p0 = some r) :
    CallsS Try.prog 59 #[.int .i64 p0] I (G) (fun v J G' => ∃ ra0 rc0, v = .slice ra0 r.length rc0 ∧ OV 5 (.slice ra0 r.length rc0) r :: G = G') := by
  refine CallsS.enter Try.func59 rfl Try.ntmps59 rfl (fun w0 => ?_)
  have hI := Mem.le.refl I
  unfold vint_Put at h
  refine WC.seq ?_
  refine WC.region ?_
  refine asg rfl rfl ?_
  refine WL.next ?_
  refine WC.seq ?_
  refine WC.region ?_
  refine mv rfl rfl ?_
  obtain ⟨x1, e2, h⟩ := bnd h
  refine call cl80 rfl rfl (W80 e2) (fun _ J3 _ hJ4 q5 => ?_)
  have hI := hI.trans hJ4
  obtain ⟨rfl, rfl⟩ := q5
  refine asg rfl rfl ?_
  refine WL.next ?_
  refine WC.seq ?_
  refine WC.region ?_
  refine asg rfl rfl ?_
  refine WL.next ?_
  refine WC.seq ?_
  refine WC.seq ?_
  refine WC.region ?_
  refine mv rfl rfl ?_
  refine su rfl rfl rfl ?_
  refine asg rfl rfl ?_
  refine WL.next ?_
  refine WC.block ?_
  refine WC.own_nil UInt8 5 ?_
  refine WC.loop (σ := (List UInt8) × Int × (Option Addr) × Nat) (fun k (x7, x10, a8, c9) => vint_Put_l0 p0 x1 k x7 x10) _ (fun (x7, x10, a8, c9) => [(0, (.int .i64 p0)), (3, (.int .i64 x1)), (4, (.slice a8 x7.length c9)), (5, (.int .i64 x10))]) (fun (x7, x10, a8, c9) => OV 5 (.slice a8 x7.length c9) x7 :: G) (fun (x7, x10, a8, c9) J => True) (fun ⟨x7, x10, a8, c9⟩ => rfl) bigN ⟨([] : List UInt8), w64 (x1 - 1), _, _⟩ h trivial ⟨rfl, rfl, rfl, rfl, trivial⟩ rfl ?_
  rintro k0 ih0 ⟨x7, x10, a8, c9⟩ J22 hJ23 - h
  change vint_Put_l0 p0 x1 (k0 + 1) x7 x10 = _ at h
  rw [vint_Put_l0] at h
  have hI := hI.trans hJ23
  have ll0 := hJ23
  refine WC.seq ?_
  refine WC.seq ?_
  refine WC.region ?_
  refine mv rfl rfl ?_
  refine ge rfl rfl rfl ?_
  refine WL.next ?_
  refine WC.ite rfl h (fun k24 h => ?_) (fun k24 h => ?_)
  · skip
    refine WC.skip ?_
    refine WX.then_ ?_
    refine WC.seq ?_
    refine WC.block ?_
    refine WC.region ?_
    refine mv rfl rfl ?_
    refine mv rfl rfl ?_
    refine mv rfl rfl ?_
    refine mu rfl rfl rfl ?_
    obtain ⟨k25, h⟩ := chk h
    refine sr k25 rfl rfl rfl ?_
    refine cv8 Try.underlying3 Try.underlying5 rfl rfl ?_
    refine bs (os := [.tmp 19]) (xs := ([(u8of (sr64 p0 (w64 (8 * x10))))] : List UInt8)) et22 rfl rfl ⟨(Rv.of_u8 _ (u8of (sr64 p0 (w64 (8 * x10))))), trivial⟩ rfl rfl rfl rfl (fun a26 c27 => ?_)
    refine WL.front 1 ?_
    obtain ⟨k29, h⟩ := chk h
    obtain ⟨x32, e33, h⟩ := bnd h
    refine ap et22 rfl rfl ((OV.rd 1 rfl)) k29 rfl (fun a30 c31 => ?_)
    refine WL.ren (Option.some.inj e33) ?_
    refine asg rfl rfl ?_
    refine WL.del 1 ?_
    refine WL.nil ?_
    refine WX.block_normal ?_
    refine WX.then_ ?_
    refine WC.region ?_
    refine mv rfl rfl ?_
    refine su rfl rfl rfl ?_
    refine asg rfl rfl ?_
    refine WL.nil ?_
    refine WX.round ?_
    exact (ih0 ⟨x32, w64 (x10 - 1), _, _⟩ _ ll0 trivial h).sub ⟨rfl, rfl, rfl, rfl, trivial⟩
  refine WC.exit ?_
  refine WX.then_exit ?_
  refine WX.then_exit ?_
  refine WX.block_here ?_
  refine WX.then_ ?_
  refine WC.seq ?_
  refine WC.seq ?_
  refine WC.region ?_
  refine mv rfl rfl ?_
  refine gt rfl rfl rfl ?_
  refine WL.next ?_
  refine WC.ite rfl h (fun k34 h => ?_) (fun k34 h => ?_)
  · skip
    refine WC.sub (r := [(3, (.int .i64 x1)), (4, (.slice a8 x7.length c9))]) ?_ ⟨rfl, rfl, trivial⟩
    obtain ⟨k35, h⟩ := chk h
    obtain ⟨z40, e41, h⟩ := bnd h
    obtain ⟨x42, e43, h⟩ := bnd h
    obtain ⟨k47, h⟩ := chk h
    obtain ⟨x50, e51, h⟩ := bnd h
    refine WC.drawn mo (nthL [[], [0], [0, 1], [], [3], [0, 1, 2, 3, 4], [0, 1, 2, 3, 4, 5], [0, 1, 2, 3, 4, 5, 6]]) (nthL [[], [0], [1], [], [3], [2, 4], [0], [5, 6]]) (nthK [.val (.slice a8 x7.length c9), .of (fun v _ => At UInt8 (.slice a8 x7.length c9) (0 : Int).toNat v) (fun _ h => h), .val (.int .u8 (z40.toNat : Int)), .val (.int .i64 x1), .val (.int .u8 (x42.toNat : Int)), .val (.int .u8 ((z40 ||| x42).toNat : Int)), .of (fun v _ => At UInt8 (.slice a8 x7.length c9) (0 : Int).toNat v) (fun _ h => h), .any]) [⟨none, (some 7), [1, 2, 6], [], fun _ => OV 5 (.slice a8 x7.length c9) x7⟩, ⟨(some 7), none, [], [], fun _ => OV 5 (.slice a8 x50.length c9) x50⟩] (by kernel_rfl) (by kernel_rfl) (by kernel_rfl) (H := G) rfl ⟨?_, ?_, ?_, ?_, ?_, ?_, ?_, ?_, trivial⟩ ?_
    · intro Q ρ I1 H hI1 hk hpost
      have hc := Mem.le.refl I1
      refine mv rfl rfl ?_
      refine WL.nil ?_
      exact hpost _ _ hc rfl _ (fun _ hd => by obtain rfl := Option.some.inj hd; exact ⟨rfl, trivial⟩)
    · intro Q ρ I1 H hI1 hk hpost
      obtain ⟨_, -⟩ := hk
      have hc := Mem.le.refl I1
      refine ixo 0 et22 rfl rfl rfl k35 rfl (fun uv36 h37 => ?_)
      refine WL.nil ?_
      exact hpost _ _ hc h37 _ (fun _ hd => by obtain rfl := Option.some.inj hd; exact ⟨rfl, trivial⟩)
    · intro Q ρ I1 H hI1 hk hpost
      obtain ⟨k1, -⟩ := hk
      have hc := Mem.le.refl I1
      refine ldo (α := UInt8) 0 na5 rfl k1 rfl e41 rfl (fun uv38 h39 => ?_)
      obtain rfl := h39.u8
      refine WL.nil ?_
      exact hpost _ _ hc rfl _ (fun _ hd => by obtain rfl := Option.some.inj hd; exact ⟨rfl, trivial⟩)
    · intro Q ρ I1 H hI1 hk hpost
      have hc := Mem.le.refl I1
      refine mv rfl rfl ?_
      refine WL.nil ?_
      exact hpost _ _ hc rfl _ (fun _ hd => by obtain rfl := Option.some.inj hd; exact ⟨rfl, trivial⟩)
    · intro Q ρ I1 H hI1 hk hpost
      obtain ⟨_, -⟩ := hk
      have hc := Mem.le.refl I1
      refine call cl81 rfl rfl (W81 e43) (fun _ J44 _ hJ45 q46 => ?_)
      have hc := hc.trans hJ45
      obtain ⟨rfl, rfl⟩ := q46
      refine WL.nil ?_
      exact hpost _ _ hc rfl _ (fun _ hd => by obtain rfl := Option.some.inj hd; exact ⟨rfl, trivial⟩)
    · intro Q ρ I1 H hI1 hk hpost
      obtain ⟨_, _, -⟩ := hk
      have hc := Mem.le.refl I1
      refine or8 (a := z40) (b := x42) rfl rfl rfl rfl rfl ?_
      refine WL.nil ?_
      exact hpost _ _ hc rfl _ (fun _ hd => by obtain rfl := Option.some.inj hd; exact ⟨rfl, trivial⟩)
    · intro Q ρ I1 H hI1 hk hpost
      obtain ⟨_, -⟩ := hk
      have hc := Mem.le.refl I1
      refine ixo 0 et22 rfl rfl rfl k47 rfl (fun uv48 h49 => ?_)
      refine WL.nil ?_
      exact hpost _ _ hc h49 _ (fun _ hd => by obtain rfl := Option.some.inj hd; exact ⟨rfl, trivial⟩)
    · intro Q ρ I1 H hI1 hk hpost
      obtain ⟨_, k6, -⟩ := hk
      have hc := Mem.le.refl I1
      refine sto2 (α := UInt8) (z := (z40 ||| x42)) sz5 rfl rfl k6 (ilt k47) (Rv.of_u8 _ (z40 ||| x42)) (Option.some.inj e51) ?_
      refine WL.nil ?_
      exact hpost undef _ hc trivial _ (fun _ hd => by cases hd)
    rintro ρ J52 hJ53 -
    refine WX.sub (r := [(4, (.slice a8 x7.length c9))]) ?_ ⟨rfl, trivial⟩
    refine WX.is (H := OV 5 (.slice a8 x50.length c9) x50 :: G) rfl ?_
    have hI := hI.trans hJ53
    have ll0 := ll0.trans hJ53
    refine WX.rb 4 rfl (u := (.slice a8 x50.length c9)) (by rw [← Option.some.inj e51, List.length_set]) ?_
    refine WX.then_ ?_
    refine WC.seq ?_
    refine WC.region ?_
    refine mv rfl rfl ?_
    refine asg rfl rfl ?_
    refine WL.next ?_
    refine WC.ret ?_
    cases h
    exact ret1 Try.results59 rfl hI ⟨_, _, rfl, rfl⟩
  refine WC.skip ?_
  refine WX.then_ ?_
  refine WC.seq ?_
  refine WC.region ?_
  refine mv rfl rfl ?_
  refine asg rfl rfl ?_
  refine WL.next ?_
  refine WC.ret ?_
  cases h
  exact ret1 Try.results59 rfl hI ⟨_, _, rfl, rfl⟩
theorem W54 {I : Mem} {G : List Asn} {p0 : List (List UInt8)} {r : (List UInt8)} (h : slices_Concat_sbyte_byte p0 = some r) {u0 : Value} (hp0 : IV I u0 p0) :
    CallsS Try.prog 54 #[u0] I (G) (fun v J G' => ∃ ra0 rc0, v = .slice ra0 r.length rc0 ∧ OV 5 (.slice ra0 r.length rc0) r :: G = G') := by
  refine CallsS.enter Try.func54 rfl Try.ntmps54 rfl (fun w0 => ?_)
  have hI := Mem.le.refl I
  obtain ⟨a0, c0, rfl⟩ := hp0.hd
  unfold slices_Concat_sbyte_byte at h
  refine WC.seq ?_
  refine WC.region ?_
  refine asg rfl rfl ?_
  refine WL.next ?_
  refine WC.seq ?_
  refine WC.region ?_
  refine asg rfl rfl ?_
  refine WL.next ?_
  refine WC.seq ?_
  refine WC.seq ?_
  refine WC.region ?_
  refine mv rfl rfl ?_
  refine ln et37 rfl (hp0.rd) rfl ?_
  refine mv rfl rfl ?_
  refine WL.next ?_
  obtain ⟨j27, hj27, h⟩ := bnd h
  refine WC.joinQ (σ := Int) (fun x26 => [(0, (.slice a0 p0.length c0)), (3, (.int .i64 x26))]) (fun x26 => G) (fun x26 J => x26 = j27) (fun kj27 => ?_) ?_
  · skip
    have lj27 := Mem.le.refl I
    refine WC.block ?_
    refine WC.loop (σ := Int × Int) (fun k (x28, x29) => slices_Concat_sbyte_byte_l0 p0 k x28 x29) _ (fun (x28, x29) => [(0, (.slice a0 p0.length c0)), (3, (.int .i64 x28)), (9, (.slice a0 p0.length c0)), (10, (.int .i64 (p0.length : Int))), (11, (.int .i64 x29))]) (fun (x28, x29) => G) (fun (x28, x29) J => True) (fun ⟨x28, x29⟩ => rfl) bigN ⟨0, 0⟩ hj27 trivial ⟨rfl, rfl, rfl, rfl, rfl, trivial⟩ rfl ?_
    rintro k0 ih0 ⟨x28, x29⟩ J41 hJ42 - hj27
    change slices_Concat_sbyte_byte_l0 p0 (k0 + 1) x28 x29 = _ at hj27
    rw [slices_Concat_sbyte_byte_l0] at hj27
    have hI := hI.trans hJ42
    have lj27 := lj27.trans hJ42
    replace hp0 := hp0.up hJ42
    have ll0 := hJ42
    refine WC.seq ?_
    refine WC.region ?_
    refine lt rfl rfl rfl ?_
    refine WL.next ?_
    refine WC.seq ?_
    refine WC.ite rfl hj27 (fun k43 hj27 => ?_) (fun k43 hj27 => ?_)
    · skip
      refine WC.skip ?_
      refine WX.then_ ?_
      refine WC.seq ?_
      refine WC.block ?_
      refine WC.seq ?_
      refine WC.region ?_
      obtain ⟨z44, e45, hj27⟩ := bnd hj27
      refine ixi et37 rfl rfl hp0 e45 rfl (fun uv46 h47 => ?_)
      refine ldi (α := List UInt8) na22 rfl h47 rfl (fun uv48 h49 => ?_)
      replace h49 := h49.sl; obtain ⟨a50, c51, rfl⟩ := h49.hd
      refine asg rfl rfl ?_
      refine WL.next ?_
      refine WC.seq ?_
      refine WC.region ?_
      refine mv rfl rfl ?_
      refine mv rfl rfl ?_
      refine ln et22 rfl (h49.rd) rfl ?_
      refine ad rfl rfl rfl ?_
      refine asg rfl rfl ?_
      refine WL.next ?_
      refine WC.seq ?_
      refine WC.region ?_
      refine mv rfl rfl ?_
      refine lt rfl rfl rfl ?_
      refine WL.next ?_
      refine WC.ite rfl hj27 (fun k52 hj27 => ?_) (fun k52 hj27 => ?_)
      · skip
        refine WC.region ?_
        cases hj27
      refine WC.skip ?_
      refine WX.block_normal ?_
      refine WX.then_ ?_
      refine WC.region ?_
      refine ad rfl rfl rfl ?_
      refine mv rfl rfl ?_
      refine WL.nil ?_
      refine WX.round ?_
      exact (ih0 ⟨w64 (x28 + (z44.length : Int)), w64 (x29 + 1)⟩ _ ll0 trivial hj27).sub ⟨rfl, rfl, rfl, rfl, rfl, trivial⟩
    refine WC.exit ?_
    refine WX.then_exit ?_
    refine WX.then_exit ?_
    refine WX.block_here ?_
    exact (kj27 x28 _ lj27 (Option.some.inj hj27)).sub ⟨rfl, rfl, trivial⟩
  rintro x26 J53 hJ54 rfl
  have hI := hI.trans hJ54
  replace hp0 := hp0.up hJ54
  refine WX.then_ ?_
  refine WC.seq ?_
  refine WC.region ?_
  refine mv rfl rfl ?_
  obtain ⟨x55, e56, h⟩ := bnd h
  refine call cl79 rfl rfl (W79 e56) (fun _ J57 _ hJ58 q59 => ?_)
  have hI := hI.trans hJ58
  replace hp0 := hp0.up hJ58
  obtain ⟨a60, c61, rfl, rfl⟩ := q59
  refine asg rfl rfl ?_
  refine WL.next ?_
  refine WC.seq ?_
  refine WC.seq ?_
  refine WC.region ?_
  refine mv rfl rfl ?_
  refine ln et37 rfl (hp0.rd) rfl ?_
  refine mv rfl rfl ?_
  refine WL.next ?_
  refine WC.block ?_
  refine WC.loop (σ := (List UInt8) × Int × (Option Addr) × Nat) (fun k (x63, x66, a64, c65) => slices_Concat_sbyte_byte_l1 p0 k x63 x66) _ (fun (x63, x66, a64, c65) => [(6, (.slice a64 x63.length c65)), (25, (.slice a0 p0.length c0)), (26, (.int .i64 (p0.length : Int))), (27, (.int .i64 x66))]) (fun (x63, x66, a64, c65) => OV 5 (.slice a64 x63.length c65) x63 :: G) (fun (x63, x66, a64, c65) J => True) (fun ⟨x63, x66, a64, c65⟩ => rfl) bigN ⟨x55, 0, _, _⟩ h trivial ⟨rfl, rfl, rfl, rfl, trivial⟩ rfl ?_
  rintro k1 ih1 ⟨x63, x66, a64, c65⟩ J80 hJ81 - h
  change slices_Concat_sbyte_byte_l1 p0 (k1 + 1) x63 x66 = _ at h
  rw [slices_Concat_sbyte_byte_l1] at h
  have hI := hI.trans hJ81
  replace hp0 := hp0.up hJ81
  have ll1 := hJ81
  refine WC.seq ?_
  refine WC.region ?_
  refine lt rfl rfl rfl ?_
  refine WL.next ?_
  refine WC.seq ?_
  refine WC.ite rfl h (fun k82 h => ?_) (fun k82 h => ?_)
  · skip
    refine WC.skip ?_
    refine WX.then_ ?_
    refine WC.seq ?_
    refine WC.block ?_
    refine WC.seq ?_
    refine WC.region ?_
    obtain ⟨z83, e84, h⟩ := bnd h
    refine ixi et37 rfl rfl hp0 e84 rfl (fun uv85 h86 => ?_)
    refine ldi (α := List UInt8) na22 rfl h86 rfl (fun uv87 h88 => ?_)
    replace h88 := h88.sl; obtain ⟨a89, c90, rfl⟩ := h88.hd
    refine asg rfl rfl ?_
    refine WL.next ?_
    refine WC.region ?_
    refine mv rfl rfl ?_
    refine mv rfl rfl ?_
    obtain ⟨k91, h⟩ := chk h
    refine ap et22 rfl rfl (h88.rd) k91 rfl (fun a92 c93 => ?_)
    refine asg rfl rfl ?_
    refine WL.nil ?_
    refine WX.block_normal ?_
    refine WX.then_ ?_
    refine WC.region ?_
    refine ad rfl rfl rfl ?_
    refine mv rfl rfl ?_
    refine WL.nil ?_
    refine WX.round ?_
    exact (ih1 ⟨(x63 ++ z83), w64 (x66 + 1), _, _⟩ _ ll1 trivial h).sub ⟨rfl, rfl, rfl, rfl, trivial⟩
  refine WC.exit ?_
  refine WX.then_exit ?_
  refine WX.then_exit ?_
  refine WX.block_here ?_
  refine WX.then_ ?_
  refine WC.seq ?_
  refine WC.region ?_
  refine mv rfl rfl ?_
  refine asg rfl rfl ?_
  refine WL.next ?_
  refine WC.ret ?_
  cases h
  exact ret1 Try.results54 rfl hI ⟨_, _, rfl, rfl⟩
theorem W60 {I : Mem} {G : List Asn} {p0 : List UInt8} {r : (List UInt8)} (h : span_Pack p0 = some r) {u0 : Value} (hp0 : IV I u0 p0) :
    CallsS Try.prog 60 #[u0] I (G) (fun v J G' => ∃ ra0 rc0, v = .slice ra0 r.length rc0 ∧ OV 5 (.slice ra0 r.length rc0) r :: G = G') := by
  refine CallsS.enter Try.func60 rfl Try.ntmps60 rfl (fun w0 => ?_)
  have hI := Mem.le.refl I
  obtain ⟨a0, c0, rfl⟩ := hp0.hd
  unfold span_Pack at h
  refine WC.seq ?_
  refine WC.region ?_
  refine asg rfl rfl ?_
  refine WL.next ?_
  refine WC.seq ?_
  refine WC.region ?_
  refine mv rfl rfl ?_
  refine ln et22 rfl (hp0.rd) rfl ?_
  obtain ⟨x1, e2, h⟩ := bnd h
  refine call cl59 rfl rfl (W59 e2) (fun _ J3 _ hJ4 q5 => ?_)
  have hI := hI.trans hJ4
  replace hp0 := hp0.up hJ4
  obtain ⟨a6, c7, rfl, rfl⟩ := q5
  refine mv rfl rfl ?_
  refine WL.freeze (fun J12 hJ13 h14 => ?_)
  have hI := hI.trans hJ13
  replace hp0 := hp0.up hJ13
  refine bs (os := [.tmp 5, .tmp 6]) (xs := ([x1, p0] : List (List UInt8))) et37 rfl rfl ⟨(h14).rv, (hp0).rv, trivial⟩ rfl rfl rfl rfl (fun a9 c10 => ?_)
  refine WL.freeze (fun J15 hJ16 h17 => ?_)
  have hI := hI.trans hJ16
  replace hp0 := hp0.up hJ16; replace h14 := h14.up hJ16
  obtain ⟨x18, e19, h⟩ := bnd h
  refine call cl54 rfl rfl (W54 e19 h17) (fun _ J20 _ hJ21 q22 => ?_)
  have hI := hI.trans hJ21
  replace hp0 := hp0.up hJ21; replace h14 := h14.up hJ21; replace h17 := h17.up hJ21
  obtain ⟨a23, c24, rfl, rfl⟩ := q22
  refine asg rfl rfl ?_
  refine WL.next ?_
  refine WC.ret ?_
  cases h
  exact ret1 Try.results60 rfl hI ⟨_, _, rfl, rfl⟩
end Go.Proofs.Ytgobccnphhljcaa
