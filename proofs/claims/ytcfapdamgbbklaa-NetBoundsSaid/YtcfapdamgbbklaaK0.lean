/- Printed by a program of this session: walks of Go functions. -/
import Derived.Test.YtcfapdamgbbklaaKf
import Derived.Test.YtcfapdamgbbklaaDf
namespace Go.Proofs.Ytcfapdamgbbklaa
set_option linter.unusedVariables false
set_option maxRecDepth 10000
set_option maxHeartbeats 2000000
theorem W5 {I : Mem} {G : List Asn} {r : net_Net} (h : net_New = some r) :
    CallsS Try.prog 5 #[] I (G) (fun v J G' => ∃ rg0, v = .pointer (some ⟨rg0, 0, none⟩) ∧ Ob_net_Net rg0 r :: G = G') := by
  refine CallsS.enter Try.func5 rfl Try.ntmps5 rfl (fun w0 => ?_)
  have hI := Mem.le.refl I
  unfold net_New at h
  refine WC.seq ?_
  refine WC.region ?_
  refine asg rfl rfl ?_
  refine WL.next ?_
  refine WC.seq ?_
  refine WC.region ?_
  refine bu bt43 rfl rfl rfl ?_
  refine bx rfl rfl rfl (fun g1 => ?_)
  refine asg rfl rfl ?_
  refine WL.next ?_
  refine WC.ret ?_
  refine WX.own_nil net_bag 47 ?_
  refine WX.own_nil net_bag 47 ?_
  refine WX.front 1 ?_
  refine WX.front 2 ?_
  refine WX.shut_net_Net (⟨([] : List net_bag), ([] : List net_bag)⟩ : net_Net)  ?_
  cases h
  exact ret1 Try.results5 rfl hI ⟨_, rfl, rfl⟩
theorem W6 {I : Mem} {G : List Asn} {p0 : Int} {p1 : Int} {r : Int} (h : haulierkeep_Within p0 p1 = some r) :
    CallsS Try.prog 6 #[.int .i64 p0, .int .i64 p1] I (G) (fun v J G' => v = .int .i64 r ∧ G = G') := by
  refine CallsS.enter Try.func6 rfl Try.ntmps6 rfl (fun w0 => ?_)
  have hI := Mem.le.refl I
  unfold haulierkeep_Within at h
  refine WC.seq ?_
  refine WC.region ?_
  refine asg rfl rfl ?_
  refine WL.next ?_
  refine WC.seq ?_
  refine WC.seq ?_
  refine WC.region ?_
  refine mv rfl rfl ?_
  refine lt rfl rfl rfl ?_
  refine WL.next ?_
  refine WC.ite rfl h (fun k1 h => ?_) (fun k1 h => ?_)
  · skip
    refine WC.seq ?_
    refine WC.region ?_
    refine asg rfl rfl ?_
    refine WL.next ?_
    refine WC.ret ?_
    refine WX.then_ret ?_
    cases h
    exact ret1 Try.results6 rfl hI ⟨rfl, rfl⟩
  refine WC.skip ?_
  refine WX.then_ ?_
  refine WC.seq ?_
  refine WC.region ?_
  refine mv rfl rfl ?_
  refine mv rfl rfl ?_
  obtain ⟨k2, h⟩ := chk h
  refine re k2 rfl rfl rfl ?_
  refine asg rfl rfl ?_
  refine WL.next ?_
  refine WC.seq ?_
  refine WC.seq ?_
  refine WC.region ?_
  refine mv rfl rfl ?_
  refine lt rfl rfl rfl ?_
  refine WL.next ?_
  refine WC.ite rfl h (fun k3 h => ?_) (fun k3 h => ?_)
  · skip
    refine WC.region ?_
    refine mv rfl rfl ?_
    refine mv rfl rfl ?_
    refine ad rfl rfl rfl ?_
    refine asg rfl rfl ?_
    refine WL.next ?_
    refine WC.seq ?_
    refine WC.region ?_
    refine mv rfl rfl ?_
    refine asg rfl rfl ?_
    refine WL.next ?_
    refine WC.ret ?_
    cases h
    exact ret1 Try.results6 rfl hI ⟨rfl, rfl⟩
  refine WC.skip ?_
  refine WX.then_ ?_
  refine WC.seq ?_
  refine WC.region ?_
  refine mv rfl rfl ?_
  refine asg rfl rfl ?_
  refine WL.next ?_
  refine WC.ret ?_
  cases h
  exact ret1 Try.results6 rfl hI ⟨rfl, rfl⟩
theorem W15 {I : Mem} {G : List Asn} {p0 : Int} {r : Bool} (h : net_side p0 = some r) :
    CallsS Try.prog 15 #[.int .i64 p0] I (G) (fun v J G' => v = .bool r ∧ G = G') := by
  refine CallsS.enter Try.func15 rfl Try.ntmps15 rfl (fun w0 => ?_)
  have hI := Mem.le.refl I
  unfold net_side at h
  refine WC.seq ?_
  refine WC.region ?_
  refine asg rfl rfl ?_
  refine WL.next ?_
  refine WC.seq ?_
  refine WC.region ?_
  refine mv rfl rfl ?_
  refine eq rfl rfl rfl ?_
  refine mv rfl rfl ?_
  rcases spl h with ⟨k1, h⟩ | ⟨k1, h⟩
  · skip
    refine WL.rb 5 rfl (bT k1) ?_
    refine WL.no rfl rfl rfl rfl ?_
    refine WL.no rfl rfl rfl rfl ?_
    refine pkT rfl rfl rfl ?_
    refine asg rfl rfl ?_
    refine WL.next ?_
    refine WC.ret ?_
    cases h
    exact ret1 Try.results15 rfl hI ⟨rfl, rfl⟩
  refine WL.rb 5 rfl (bF k1) ?_
  refine WL.on rfl rfl ?_
  refine mv rfl rfl ?_
  refine WL.on rfl rfl ?_
  refine eq rfl rfl rfl ?_
  refine pkF rfl rfl rfl ?_
  refine asg rfl rfl ?_
  refine WL.next ?_
  refine WC.ret ?_
  cases h
  exact ret1 Try.results15 rfl hI ⟨rfl, rfl⟩
theorem W42 {I : Mem} {G : List Asn} {p0 : Int} {p1 : Int} {r : Bool} (h : packet_upto p0 p1 = some r) :
    CallsS Try.prog 42 #[.int .i64 p0, .int .i64 p1] I (G) (fun v J G' => v = .bool r ∧ G = G') := by
  refine CallsS.enter Try.func42 rfl Try.ntmps42 rfl (fun w0 => ?_)
  have hI := Mem.le.refl I
  unfold packet_upto at h
  refine WC.seq ?_
  refine WC.region ?_
  refine asg rfl rfl ?_
  refine WL.next ?_
  refine WC.seq ?_
  refine WC.region ?_
  refine mv rfl rfl ?_
  refine ge rfl rfl rfl ?_
  refine mv rfl rfl ?_
  rcases spl h with ⟨k1, h⟩ | ⟨k1, h⟩
  · skip
    refine WL.rb 7 rfl (bT k1) ?_
    refine WL.on rfl rfl ?_
    refine mv rfl rfl ?_
    refine WL.on rfl rfl ?_
    refine mv rfl rfl ?_
    refine WL.on rfl rfl ?_
    refine le rfl rfl rfl ?_
    refine pkT rfl rfl rfl ?_
    refine asg rfl rfl ?_
    refine WL.next ?_
    refine WC.ret ?_
    cases h
    exact ret1 Try.results42 rfl hI ⟨rfl, rfl⟩
  refine WL.rb 7 rfl (bF k1) ?_
  refine WL.no rfl rfl rfl rfl ?_
  refine WL.no rfl rfl rfl rfl ?_
  refine WL.no rfl rfl rfl rfl ?_
  refine pkF rfl rfl rfl ?_
  refine asg rfl rfl ?_
  refine WL.next ?_
  refine WC.ret ?_
  cases h
  exact ret1 Try.results42 rfl hI ⟨rfl, rfl⟩
theorem W41 {I : Mem} {G : List Asn} {p0 : api_Packet} {r : Bool} (h : packet_fields p0 = some r) {u0_5 : Value} (hp0_5 : IV I u0_5 p0.Data) :
    CallsS Try.prog 41 #[.agg #[(.int .i64 p0.Kind), (.int .i64 p0.Path), (.int .i64 p0.Number), (.int .i64 p0.Of), (.int .i64 p0.From), u0_5, (.bool p0.Fin), (.int .i64 p0.Seen), (.int .i64 p0.Limit)]] I (G) (fun v J G' => v = .bool r ∧ G = G') := by
  refine CallsS.enter Try.func41 rfl Try.ntmps41 rfl (fun w0 => ?_)
  have hI := Mem.le.refl I
  obtain ⟨a0_5, c0_5, rfl⟩ := hp0_5.hd
  unfold packet_fields at h
  refine WC.seq ?_
  refine WC.region ?_
  refine bx rfl rfl rfl (fun g1 => ?_)
  refine asg rfl rfl ?_
  refine WL.next ?_
  refine WC.seq ?_
  refine WC.seq ?_
  refine WC.region ?_
  refine fa fl29_0 rfl rfl ?_
  refine ld 0 na3 rfl rfl rfl rfl ?_
  refine WL.next ?_
  refine WC.block ?_
  refine WC.seq ?_
  refine WC.region ?_
  refine eq rfl rfl rfl ?_
  refine asg rfl rfl ?_
  refine WL.next ?_
  refine WC.ite rfl h (fun k3 h => ?_) (fun k3 h => ?_)
  · skip
    refine WC.seq ?_
    refine WC.region ?_
    refine fa fl29_3 rfl rfl ?_
    refine ld 0 na3 rfl rfl rfl rfl ?_
    obtain ⟨x4, e5, h⟩ := bnd h
    refine call cl42 rfl rfl (W42 e5) (fun _ J6 _ hJ7 q8 => ?_)
    have hI := hI.trans hJ7
    replace hp0_5 := hp0_5.up hJ7
    obtain ⟨rfl, rfl⟩ := q8
    refine asg rfl rfl ?_
    refine WL.del 0 ?_
    refine WL.next ?_
    refine WC.ret ?_
    refine WX.block_ret ?_
    refine WX.then_ret ?_
    cases h
    exact ret1 Try.results41 rfl hI ⟨rfl, rfl⟩
  refine WC.seq ?_
  refine WC.region ?_
  refine eq rfl rfl rfl ?_
  refine asg rfl rfl ?_
  refine WL.next ?_
  refine WC.ite rfl h (fun k9 h => ?_) (fun k9 h => ?_)
  · skip
    refine WC.seq ?_
    refine WC.region ?_
    refine fa fl29_4 rfl rfl ?_
    refine ld 0 na3 rfl rfl rfl rfl ?_
    obtain ⟨x10, e11, h⟩ := bnd h
    refine call cl42 rfl rfl (W42 e11) (fun _ J12 _ hJ13 q14 => ?_)
    have hI := hI.trans hJ13
    replace hp0_5 := hp0_5.up hJ13
    obtain ⟨rfl, rfl⟩ := q14
    refine mv rfl rfl ?_
    rcases spl h with ⟨k15, h⟩ | ⟨k15, h⟩
    · skip
      refine WL.rb 15 rfl (bt1 k15) ?_
      refine WL.on rfl rfl ?_
      refine fa fl29_5 rfl rfl ?_
      refine WL.on rfl rfl ?_
      refine ld 0 na27 rfl rfl rfl rfl ?_
      refine WL.on rfl rfl ?_
      refine ln et27 rfl (hp0_5.rd) rfl ?_
      refine WL.on rfl rfl ?_
      refine le rfl rfl rfl ?_
      refine pkT rfl rfl rfl ?_
      refine mv rfl rfl ?_
      rcases spl h with ⟨k16, h⟩ | ⟨k16, h⟩
      · skip
        refine WL.rb 21 rfl (bT k16) ?_
        refine WL.on rfl rfl ?_
        refine fa fl29_5 rfl rfl ?_
        refine WL.on rfl rfl ?_
        refine ld 0 na27 rfl rfl rfl rfl ?_
        refine WL.on rfl rfl ?_
        refine ln et27 rfl (hp0_5.rd) rfl ?_
        refine WL.on rfl rfl ?_
        refine fa fl29_4 rfl rfl ?_
        refine WL.on rfl rfl ?_
        refine ld 0 na3 rfl rfl rfl rfl ?_
        refine WL.on rfl rfl ?_
        refine su rfl rfl rfl ?_
        refine WL.on rfl rfl ?_
        refine le rfl rfl rfl ?_
        refine pkT rfl rfl rfl ?_
        refine asg rfl rfl ?_
        refine WL.del 0 ?_
        refine WL.next ?_
        refine WC.ret ?_
        refine WX.block_ret ?_
        refine WX.then_ret ?_
        cases h
        exact ret1 Try.results41 rfl hI ⟨rfl, rfl⟩
      refine WL.rb 21 rfl (bF k16) ?_
      refine WL.no rfl rfl rfl rfl ?_
      refine WL.no rfl rfl rfl rfl ?_
      refine WL.no rfl rfl rfl rfl ?_
      refine WL.no rfl rfl rfl rfl ?_
      refine WL.no rfl rfl rfl rfl ?_
      refine WL.no rfl rfl rfl rfl ?_
      refine WL.no rfl rfl rfl rfl ?_
      refine pkF rfl rfl rfl ?_
      refine asg rfl rfl ?_
      refine WL.del 0 ?_
      refine WL.next ?_
      refine WC.ret ?_
      refine WX.block_ret ?_
      refine WX.then_ret ?_
      cases h
      exact ret1 Try.results41 rfl hI ⟨rfl, rfl⟩
    refine WL.rb 15 rfl (bf1 k15) ?_
    refine WL.no rfl rfl rfl rfl ?_
    refine WL.no rfl rfl rfl rfl ?_
    refine WL.no rfl rfl rfl rfl ?_
    refine WL.no rfl rfl rfl rfl ?_
    refine pkF rfl rfl rfl ?_
    refine mv rfl rfl ?_
    refine WL.no rfl rfl rfl rfl ?_
    refine WL.no rfl rfl rfl rfl ?_
    refine WL.no rfl rfl rfl rfl ?_
    refine WL.no rfl rfl rfl rfl ?_
    refine WL.no rfl rfl rfl rfl ?_
    refine WL.no rfl rfl rfl rfl ?_
    refine WL.no rfl rfl rfl rfl ?_
    refine pkF rfl rfl rfl ?_
    refine asg rfl rfl ?_
    refine WL.del 0 ?_
    refine WL.next ?_
    refine WC.ret ?_
    refine WX.block_ret ?_
    refine WX.then_ret ?_
    cases h
    exact ret1 Try.results41 rfl hI ⟨rfl, rfl⟩
  refine WC.seq ?_
  refine WC.region ?_
  refine eq rfl rfl rfl ?_
  refine asg rfl rfl ?_
  refine WL.next ?_
  refine WC.ite rfl h (fun k17 h => ?_) (fun k17 h => ?_)
  · skip
    refine WC.seq ?_
    refine WC.region ?_
    refine fa fl29_3 rfl rfl ?_
    refine ld 0 na3 rfl rfl rfl rfl ?_
    obtain ⟨x18, e19, h⟩ := bnd h
    refine call cl42 rfl rfl (W42 e19) (fun _ J20 _ hJ21 q22 => ?_)
    have hI := hI.trans hJ21
    replace hp0_5 := hp0_5.up hJ21
    obtain ⟨rfl, rfl⟩ := q22
    refine mv rfl rfl ?_
    rcases spl h with ⟨k23, h⟩ | ⟨k23, h⟩
    · skip
      refine WL.rb 35 rfl (bt1 k23) ?_
      refine WL.on rfl rfl ?_
      refine fa fl29_7 rfl rfl ?_
      refine WL.on rfl rfl ?_
      refine ld 0 na3 rfl rfl rfl rfl ?_
      refine WL.on rfl rfl ?_
      obtain ⟨x24, e25, h⟩ := bnd h
      refine call cl42 rfl rfl (W42 e25) (fun _ J26 _ hJ27 q28 => ?_)
      have hI := hI.trans hJ27
      replace hp0_5 := hp0_5.up hJ27
      obtain ⟨rfl, rfl⟩ := q28
      refine pkT rfl rfl rfl ?_
      refine mv rfl rfl ?_
      rcases spl h with ⟨k29, h⟩ | ⟨k29, h⟩
      · skip
        refine WL.rb 40 rfl (bt1 k29) ?_
        refine WL.on rfl rfl ?_
        refine fa fl29_8 rfl rfl ?_
        refine WL.on rfl rfl ?_
        refine ld 0 na3 rfl rfl rfl rfl ?_
        refine WL.on rfl rfl ?_
        obtain ⟨x30, e31, h⟩ := bnd h
        refine call cl42 rfl rfl (W42 e31) (fun _ J32 _ hJ33 q34 => ?_)
        have hI := hI.trans hJ33
        replace hp0_5 := hp0_5.up hJ33
        obtain ⟨rfl, rfl⟩ := q34
        refine pkT rfl rfl rfl ?_
        refine asg rfl rfl ?_
        refine WL.del 0 ?_
        refine WL.next ?_
        refine WC.ret ?_
        refine WX.block_ret ?_
        refine WX.then_ret ?_
        cases h
        exact ret1 Try.results41 rfl hI ⟨rfl, rfl⟩
      refine WL.rb 40 rfl (bf1 k29) ?_
      refine WL.no rfl rfl rfl rfl ?_
      refine WL.no rfl rfl rfl rfl ?_
      refine WL.no rfl rfl rfl rfl ?_
      refine pkF rfl rfl rfl ?_
      refine asg rfl rfl ?_
      refine WL.del 0 ?_
      refine WL.next ?_
      refine WC.ret ?_
      refine WX.block_ret ?_
      refine WX.then_ret ?_
      cases h
      exact ret1 Try.results41 rfl hI ⟨rfl, rfl⟩
    refine WL.rb 35 rfl (bf1 k23) ?_
    refine WL.no rfl rfl rfl rfl ?_
    refine WL.no rfl rfl rfl rfl ?_
    refine WL.no rfl rfl rfl rfl ?_
    refine pkF rfl rfl rfl ?_
    refine mv rfl rfl ?_
    refine WL.no rfl rfl rfl rfl ?_
    refine WL.no rfl rfl rfl rfl ?_
    refine WL.no rfl rfl rfl rfl ?_
    refine pkF rfl rfl rfl ?_
    refine asg rfl rfl ?_
    refine WL.del 0 ?_
    refine WL.next ?_
    refine WC.ret ?_
    refine WX.block_ret ?_
    refine WX.then_ret ?_
    cases h
    exact ret1 Try.results41 rfl hI ⟨rfl, rfl⟩
  refine WC.skip ?_
  refine WX.block_normal ?_
  refine WX.then_ ?_
  refine WC.seq ?_
  refine WC.region ?_
  refine fa fl29_0 rfl rfl ?_
  refine ld 0 na3 rfl rfl rfl rfl ?_
  refine eq rfl rfl rfl ?_
  refine asg rfl rfl ?_
  refine WL.del 0 ?_
  refine WL.next ?_
  refine WC.ret ?_
  cases h
  exact ret1 Try.results41 rfl hI ⟨rfl, rfl⟩
theorem W44 {I : Mem} {G : List Asn} {p0 : api_Packet} {r : api_Packet} (h : packet_bare p0 = some r) {u0_5 : Value} (hp0_5 : IV I u0_5 p0.Data) :
    CallsS Try.prog 44 #[.agg #[(.int .i64 p0.Kind), (.int .i64 p0.Path), (.int .i64 p0.Number), (.int .i64 p0.Of), (.int .i64 p0.From), u0_5, (.bool p0.Fin), (.int .i64 p0.Seen), (.int .i64 p0.Limit)]] I (G) (fun v J G' => ∃ ra0_5 rc0_5, v = .agg #[.int .i64 r.Kind, .int .i64 r.Path, .int .i64 r.Number, .int .i64 r.Of, .int .i64 r.From, .slice ra0_5 r.Data.length rc0_5, .bool r.Fin, .int .i64 r.Seen, .int .i64 r.Limit] ∧ IV J (.slice ra0_5 r.Data.length rc0_5) r.Data ∧ G = G') := by
  refine CallsS.enter Try.func44 rfl Try.ntmps44 rfl (fun w0 => ?_)
  have hI := Mem.le.refl I
  obtain ⟨a0_5, c0_5, rfl⟩ := hp0_5.hd
  unfold packet_bare at h
  refine WC.seq ?_
  refine WC.region ?_
  refine bx rfl rfl rfl (fun g1 => ?_)
  refine al Try.zeroValue29 rfl (fun g3 => ?_)
  refine WL.next ?_
  refine WC.seq ?_
  refine WC.region ?_
  refine fa fl29_0 rfl rfl ?_
  refine ld 1 na3 rfl rfl rfl rfl ?_
  refine fa fl29_1 rfl rfl ?_
  refine ld 1 na3 rfl rfl rfl rfl ?_
  refine fa fl29_2 rfl rfl ?_
  refine ld 1 na3 rfl rfl rfl rfl ?_
  refine bu bt29 rfl rfl rfl ?_
  refine al Try.zeroValue29 rfl (fun g5 => ?_)
  refine sta (C' := #[(.int .i64 p0.Kind), (.int .i64 p0.Path), (.int .i64 p0.Number), (.int .i64 0), (.int .i64 0), (.slice none 0 0), (.bool false), (.int .i64 0), (.int .i64 0)]) sz29 rfl rfl rfl rfl rfl rfl ?_
  refine WL.next ?_
  refine WC.seq ?_
  refine WC.seq ?_
  refine WC.region ?_
  refine fa fl29_0 rfl rfl ?_
  refine ld 2 na3 rfl rfl rfl rfl ?_
  refine WL.next ?_
  refine WC.block ?_
  refine WC.seq ?_
  refine WC.region ?_
  refine eq rfl rfl rfl ?_
  refine asg rfl rfl ?_
  refine WL.next ?_
  refine WC.ite rfl h (fun k7 h => ?_) (fun k7 h => ?_)
  · skip
    refine WC.region ?_
    refine fa fl29_3 rfl rfl ?_
    refine ld 2 na3 rfl rfl rfl rfl ?_
    refine fa fl29_3 rfl rfl ?_
    refine st (C' := #[(.int .i64 p0.Kind), (.int .i64 p0.Path), (.int .i64 p0.Number), (.int .i64 p0.Of), (.int .i64 0), (.slice none 0 0), (.bool false), (.int .i64 0), (.int .i64 0)]) sz3 rfl rfl rfl rfl rfl ?_
    refine WL.del 2 ?_
    refine WL.nil ?_
    refine WX.block_normal ?_
    refine WX.then_ ?_
    refine WC.seq ?_
    refine WC.region ?_
    refine lda 0 ya29 rfl rfl rfl rfl rfl ?_
    refine WL.front 1 ?_
    refine sta (C' := #[(.int .i64 p0.Kind), (.int .i64 p0.Path), (.int .i64 p0.Number), (.int .i64 p0.Of), (.int .i64 0), (.slice none 0 0), (.bool false), (.int .i64 0), (.int .i64 0)]) sz29 rfl rfl rfl rfl rfl rfl ?_
    refine WL.del 1 ?_
    refine WL.next ?_
    refine WC.ret ?_
    cases h
    exact retC1x Try.results44 (fun a w ha hw => RC.cellA ha hw 0 rfl ya29 rfl rfl) (fun w hw => hw |>.del 0) hI ⟨_, _, rfl, (IV.nil _ : IV _ _ ([] : List UInt8)), rfl⟩
  refine WC.seq ?_
  refine WC.region ?_
  refine eq rfl rfl rfl ?_
  refine asg rfl rfl ?_
  refine WL.next ?_
  refine WC.ite rfl h (fun k8 h => ?_) (fun k8 h => ?_)
  · skip
    refine WC.sub (r := [(1, (.pointer (some ⟨g1, 0, none⟩))), (2, (.pointer (some ⟨g3, 0, none⟩))), (3, (.pointer (some ⟨g5, 0, none⟩)))]) ?_ ⟨rfl, rfl, rfl, trivial⟩
    refine WC.front 2 ?_
    refine WC.drawn mo (nthL [[], [0], [], [2], [], [4], [0, 1], [0, 1, 6], [0, 1, 2, 3, 6, 7], [0, 1, 2, 3, 6, 7, 8], [0, 1, 2, 3, 4, 5, 6, 7, 8, 9], [0, 1, 2, 3, 4, 5, 6, 7, 8, 9, 10]]) (nthL [[], [0], [], [2], [], [4], [], [1, 6], [], [3, 8], [], [5, 10]]) (nthK [.val (.pointer (some ⟨g1, 4, none⟩)), .val (.int .i64 p0.From), .val (.pointer (some ⟨g1, 5, none⟩)), .val (.slice a0_5 p0.Data.length c0_5), .val (.pointer (some ⟨g1, 6, none⟩)), .val (.bool p0.Fin), .val (.pointer (some ⟨g5, 4, none⟩)), .any, .val (.pointer (some ⟨g5, 5, none⟩)), .any, .val (.pointer (some ⟨g5, 6, none⟩)), .any]) [⟨none, none, [1, 3, 5], [], fun _ => bl g1 #[(.int .i64 p0.Kind), (.int .i64 p0.Path), (.int .i64 p0.Number), (.int .i64 p0.Of), (.int .i64 p0.From), (.slice a0_5 p0.Data.length c0_5), (.bool p0.Fin), (.int .i64 p0.Seen), (.int .i64 p0.Limit)] 29⟩, ⟨none, (some 7), [], [], fun _ => bl g5 #[(.int .i64 p0.Kind), (.int .i64 p0.Path), (.int .i64 p0.Number), (.int .i64 0), (.int .i64 0), (.slice none 0 0), (.bool false), (.int .i64 0), (.int .i64 0)] 29⟩, ⟨(some 7), (some 9), [], [], fun _ => bl g5 #[(.int .i64 p0.Kind), (.int .i64 p0.Path), (.int .i64 p0.Number), (.int .i64 0), (.int .i64 p0.From), (.slice none 0 0), (.bool false), (.int .i64 0), (.int .i64 0)] 29⟩, ⟨(some 9), (some 11), [], [], fun _ => bl g5 #[(.int .i64 p0.Kind), (.int .i64 p0.Path), (.int .i64 p0.Number), (.int .i64 0), (.int .i64 p0.From), (.slice a0_5 p0.Data.length c0_5), (.bool false), (.int .i64 0), (.int .i64 0)] 29⟩, ⟨(some 11), none, [], [], fun _ => bl g5 #[(.int .i64 p0.Kind), (.int .i64 p0.Path), (.int .i64 p0.Number), (.int .i64 0), (.int .i64 p0.From), (.slice a0_5 p0.Data.length c0_5), (.bool p0.Fin), (.int .i64 0), (.int .i64 0)] 29⟩] (by kernel_rfl) (by kernel_rfl) (by kernel_rfl) (H := bl g3 #[(.int .i64 0), (.int .i64 0), (.int .i64 0), (.int .i64 0), (.int .i64 0), (.slice none 0 0), (.bool false), (.int .i64 0), (.int .i64 0)] 29 :: G) rfl ⟨?_, ?_, ?_, ?_, ?_, ?_, ?_, ?_, ?_, ?_, ?_, ?_, trivial⟩ ?_
    · intro Q ρ I1 H hI1 hk hpost
      have hc := Mem.le.refl I1
      refine fa fl29_4 rfl rfl ?_
      refine WL.nil ?_
      exact hpost _ _ hc rfl _ (fun _ hd => by obtain rfl := Option.some.inj hd; exact ⟨rfl, trivial⟩)
    · intro Q ρ I1 H hI1 hk hpost
      obtain ⟨_, -⟩ := hk
      have hc := Mem.le.refl I1
      refine ld 0 na3 rfl rfl rfl rfl ?_
      refine WL.nil ?_
      exact hpost _ _ hc rfl _ (fun _ hd => by obtain rfl := Option.some.inj hd; exact ⟨rfl, trivial⟩)
    · intro Q ρ I1 H hI1 hk hpost
      have hc := Mem.le.refl I1
      refine fa fl29_5 rfl rfl ?_
      refine WL.nil ?_
      exact hpost _ _ hc rfl _ (fun _ hd => by obtain rfl := Option.some.inj hd; exact ⟨rfl, trivial⟩)
    · intro Q ρ I1 H hI1 hk hpost
      obtain ⟨_, -⟩ := hk
      have hc := Mem.le.refl I1
      refine ld 0 na27 rfl rfl rfl rfl ?_
      refine WL.nil ?_
      exact hpost _ _ hc rfl _ (fun _ hd => by obtain rfl := Option.some.inj hd; exact ⟨rfl, trivial⟩)
    · intro Q ρ I1 H hI1 hk hpost
      have hc := Mem.le.refl I1
      refine fa fl29_6 rfl rfl ?_
      refine WL.nil ?_
      exact hpost _ _ hc rfl _ (fun _ hd => by obtain rfl := Option.some.inj hd; exact ⟨rfl, trivial⟩)
    · intro Q ρ I1 H hI1 hk hpost
      obtain ⟨_, -⟩ := hk
      have hc := Mem.le.refl I1
      refine ld 0 na4 rfl rfl rfl rfl ?_
      refine WL.nil ?_
      exact hpost _ _ hc rfl _ (fun _ hd => by obtain rfl := Option.some.inj hd; exact ⟨rfl, trivial⟩)
    · intro Q ρ I1 H hI1 hk hpost
      have hc := Mem.le.refl I1
      refine fa fl29_4 rfl rfl ?_
      refine WL.nil ?_
      exact hpost _ _ hc rfl _ (fun _ hd => by obtain rfl := Option.some.inj hd; exact ⟨rfl, trivial⟩)
    · intro Q ρ I1 H hI1 hk hpost
      obtain ⟨_, _, -⟩ := hk
      have hc := Mem.le.refl I1
      refine st (C' := #[(.int .i64 p0.Kind), (.int .i64 p0.Path), (.int .i64 p0.Number), (.int .i64 0), (.int .i64 p0.From), (.slice none 0 0), (.bool false), (.int .i64 0), (.int .i64 0)]) sz3 rfl rfl rfl rfl rfl ?_
      refine WL.nil ?_
      exact hpost undef _ hc trivial _ (fun _ hd => by cases hd)
    · intro Q ρ I1 H hI1 hk hpost
      have hc := Mem.le.refl I1
      refine fa fl29_5 rfl rfl ?_
      refine WL.nil ?_
      exact hpost _ _ hc rfl _ (fun _ hd => by obtain rfl := Option.some.inj hd; exact ⟨rfl, trivial⟩)
    · intro Q ρ I1 H hI1 hk hpost
      obtain ⟨_, _, -⟩ := hk
      have hc := Mem.le.refl I1
      refine st (C' := #[(.int .i64 p0.Kind), (.int .i64 p0.Path), (.int .i64 p0.Number), (.int .i64 0), (.int .i64 p0.From), (.slice a0_5 p0.Data.length c0_5), (.bool false), (.int .i64 0), (.int .i64 0)]) sz27 rfl rfl rfl rfl rfl ?_
      refine WL.nil ?_
      exact hpost undef _ hc trivial _ (fun _ hd => by cases hd)
    · intro Q ρ I1 H hI1 hk hpost
      have hc := Mem.le.refl I1
      refine fa fl29_6 rfl rfl ?_
      refine WL.nil ?_
      exact hpost _ _ hc rfl _ (fun _ hd => by obtain rfl := Option.some.inj hd; exact ⟨rfl, trivial⟩)
    · intro Q ρ I1 H hI1 hk hpost
      obtain ⟨_, _, -⟩ := hk
      have hc := Mem.le.refl I1
      refine st (C' := #[(.int .i64 p0.Kind), (.int .i64 p0.Path), (.int .i64 p0.Number), (.int .i64 0), (.int .i64 p0.From), (.slice a0_5 p0.Data.length c0_5), (.bool p0.Fin), (.int .i64 0), (.int .i64 0)]) sz4 rfl rfl rfl rfl rfl ?_
      refine WL.nil ?_
      exact hpost undef _ hc trivial _ (fun _ hd => by cases hd)
    rintro ρ J9 hJ10 -
    refine WX.sub (r := [(2, (.pointer (some ⟨g3, 0, none⟩))), (3, (.pointer (some ⟨g5, 0, none⟩)))]) ?_ ⟨rfl, rfl, trivial⟩
    refine WX.is (H := bl g1 #[(.int .i64 p0.Kind), (.int .i64 p0.Path), (.int .i64 p0.Number), (.int .i64 p0.Of), (.int .i64 p0.From), (.slice a0_5 p0.Data.length c0_5), (.bool p0.Fin), (.int .i64 p0.Seen), (.int .i64 p0.Limit)] 29 :: bl g5 #[(.int .i64 p0.Kind), (.int .i64 p0.Path), (.int .i64 p0.Number), (.int .i64 0), (.int .i64 p0.From), (.slice a0_5 p0.Data.length c0_5), (.bool p0.Fin), (.int .i64 0), (.int .i64 0)] 29 :: bl g3 #[(.int .i64 0), (.int .i64 0), (.int .i64 0), (.int .i64 0), (.int .i64 0), (.slice none 0 0), (.bool false), (.int .i64 0), (.int .i64 0)] 29 :: G) rfl ?_
    have hI := hI.trans hJ10
    replace hp0_5 := hp0_5.up hJ10
    refine WX.block_normal ?_
    refine WX.then_ ?_
    refine WC.seq ?_
    refine WC.region ?_
    refine lda 1 ya29 rfl rfl rfl rfl rfl ?_
    refine WL.front 2 ?_
    refine sta (C' := #[(.int .i64 p0.Kind), (.int .i64 p0.Path), (.int .i64 p0.Number), (.int .i64 0), (.int .i64 p0.From), (.slice a0_5 p0.Data.length c0_5), (.bool p0.Fin), (.int .i64 0), (.int .i64 0)]) sz29 rfl rfl rfl rfl rfl rfl ?_
    refine WL.del 1 ?_
    refine WL.del 1 ?_
    refine WL.next ?_
    refine WC.ret ?_
    cases h
    exact retC1x Try.results44 (fun a w ha hw => RC.cellA ha hw 0 rfl ya29 rfl rfl) (fun w hw => hw |>.del 0) hI ⟨_, _, rfl, hp0_5, rfl⟩
  refine WC.seq ?_
  refine WC.region ?_
  refine eq rfl rfl rfl ?_
  refine asg rfl rfl ?_
  refine WL.next ?_
  refine WC.ite rfl h (fun k11 h => ?_) (fun k11 h => ?_)
  · skip
    refine WC.sub (r := [(1, (.pointer (some ⟨g1, 0, none⟩))), (2, (.pointer (some ⟨g3, 0, none⟩))), (3, (.pointer (some ⟨g5, 0, none⟩)))]) ?_ ⟨rfl, rfl, rfl, trivial⟩
    refine WC.front 2 ?_
    refine WC.drawn mo (nthL [[], [0], [], [2], [], [4], [0, 1], [0, 1, 6], [0, 1, 2, 3, 6, 7], [0, 1, 2, 3, 6, 7, 8], [0, 1, 2, 3, 4, 5, 6, 7, 8, 9], [0, 1, 2, 3, 4, 5, 6, 7, 8, 9, 10]]) (nthL [[], [0], [], [2], [], [4], [], [1, 6], [], [3, 8], [], [5, 10]]) (nthK [.val (.pointer (some ⟨g1, 3, none⟩)), .val (.int .i64 p0.Of), .val (.pointer (some ⟨g1, 7, none⟩)), .val (.int .i64 p0.Seen), .val (.pointer (some ⟨g1, 8, none⟩)), .val (.int .i64 p0.Limit), .val (.pointer (some ⟨g5, 3, none⟩)), .any, .val (.pointer (some ⟨g5, 7, none⟩)), .any, .val (.pointer (some ⟨g5, 8, none⟩)), .any]) [⟨none, none, [1, 3, 5], [], fun _ => bl g1 #[(.int .i64 p0.Kind), (.int .i64 p0.Path), (.int .i64 p0.Number), (.int .i64 p0.Of), (.int .i64 p0.From), (.slice a0_5 p0.Data.length c0_5), (.bool p0.Fin), (.int .i64 p0.Seen), (.int .i64 p0.Limit)] 29⟩, ⟨none, (some 7), [], [], fun _ => bl g5 #[(.int .i64 p0.Kind), (.int .i64 p0.Path), (.int .i64 p0.Number), (.int .i64 0), (.int .i64 0), (.slice none 0 0), (.bool false), (.int .i64 0), (.int .i64 0)] 29⟩, ⟨(some 7), (some 9), [], [], fun _ => bl g5 #[(.int .i64 p0.Kind), (.int .i64 p0.Path), (.int .i64 p0.Number), (.int .i64 p0.Of), (.int .i64 0), (.slice none 0 0), (.bool false), (.int .i64 0), (.int .i64 0)] 29⟩, ⟨(some 9), (some 11), [], [], fun _ => bl g5 #[(.int .i64 p0.Kind), (.int .i64 p0.Path), (.int .i64 p0.Number), (.int .i64 p0.Of), (.int .i64 0), (.slice none 0 0), (.bool false), (.int .i64 p0.Seen), (.int .i64 0)] 29⟩, ⟨(some 11), none, [], [], fun _ => bl g5 #[(.int .i64 p0.Kind), (.int .i64 p0.Path), (.int .i64 p0.Number), (.int .i64 p0.Of), (.int .i64 0), (.slice none 0 0), (.bool false), (.int .i64 p0.Seen), (.int .i64 p0.Limit)] 29⟩] (by kernel_rfl) (by kernel_rfl) (by kernel_rfl) (H := bl g3 #[(.int .i64 0), (.int .i64 0), (.int .i64 0), (.int .i64 0), (.int .i64 0), (.slice none 0 0), (.bool false), (.int .i64 0), (.int .i64 0)] 29 :: G) rfl ⟨?_, ?_, ?_, ?_, ?_, ?_, ?_, ?_, ?_, ?_, ?_, ?_, trivial⟩ ?_
    · intro Q ρ I1 H hI1 hk hpost
      have hc := Mem.le.refl I1
      refine fa fl29_3 rfl rfl ?_
      refine WL.nil ?_
      exact hpost _ _ hc rfl _ (fun _ hd => by obtain rfl := Option.some.inj hd; exact ⟨rfl, trivial⟩)
    · intro Q ρ I1 H hI1 hk hpost
      obtain ⟨_, -⟩ := hk
      have hc := Mem.le.refl I1
      refine ld 0 na3 rfl rfl rfl rfl ?_
      refine WL.nil ?_
      exact hpost _ _ hc rfl _ (fun _ hd => by obtain rfl := Option.some.inj hd; exact ⟨rfl, trivial⟩)
    · intro Q ρ I1 H hI1 hk hpost
      have hc := Mem.le.refl I1
      refine fa fl29_7 rfl rfl ?_
      refine WL.nil ?_
      exact hpost _ _ hc rfl _ (fun _ hd => by obtain rfl := Option.some.inj hd; exact ⟨rfl, trivial⟩)
    · intro Q ρ I1 H hI1 hk hpost
      obtain ⟨_, -⟩ := hk
      have hc := Mem.le.refl I1
      refine ld 0 na3 rfl rfl rfl rfl ?_
      refine WL.nil ?_
      exact hpost _ _ hc rfl _ (fun _ hd => by obtain rfl := Option.some.inj hd; exact ⟨rfl, trivial⟩)
    · intro Q ρ I1 H hI1 hk hpost
      have hc := Mem.le.refl I1
      refine fa fl29_8 rfl rfl ?_
      refine WL.nil ?_
      exact hpost _ _ hc rfl _ (fun _ hd => by obtain rfl := Option.some.inj hd; exact ⟨rfl, trivial⟩)
    · intro Q ρ I1 H hI1 hk hpost
      obtain ⟨_, -⟩ := hk
      have hc := Mem.le.refl I1
      refine ld 0 na3 rfl rfl rfl rfl ?_
      refine WL.nil ?_
      exact hpost _ _ hc rfl _ (fun _ hd => by obtain rfl := Option.some.inj hd; exact ⟨rfl, trivial⟩)
    · intro Q ρ I1 H hI1 hk hpost
      have hc := Mem.le.refl I1
      refine fa fl29_3 rfl rfl ?_
      refine WL.nil ?_
      exact hpost _ _ hc rfl _ (fun _ hd => by obtain rfl := Option.some.inj hd; exact ⟨rfl, trivial⟩)
    · intro Q ρ I1 H hI1 hk hpost
      obtain ⟨_, _, -⟩ := hk
      have hc := Mem.le.refl I1
      refine st (C' := #[(.int .i64 p0.Kind), (.int .i64 p0.Path), (.int .i64 p0.Number), (.int .i64 p0.Of), (.int .i64 0), (.slice none 0 0), (.bool false), (.int .i64 0), (.int .i64 0)]) sz3 rfl rfl rfl rfl rfl ?_
      refine WL.nil ?_
      exact hpost undef _ hc trivial _ (fun _ hd => by cases hd)
    · intro Q ρ I1 H hI1 hk hpost
      have hc := Mem.le.refl I1
      refine fa fl29_7 rfl rfl ?_
      refine WL.nil ?_
      exact hpost _ _ hc rfl _ (fun _ hd => by obtain rfl := Option.some.inj hd; exact ⟨rfl, trivial⟩)
    · intro Q ρ I1 H hI1 hk hpost
      obtain ⟨_, _, -⟩ := hk
      have hc := Mem.le.refl I1
      refine st (C' := #[(.int .i64 p0.Kind), (.int .i64 p0.Path), (.int .i64 p0.Number), (.int .i64 p0.Of), (.int .i64 0), (.slice none 0 0), (.bool false), (.int .i64 p0.Seen), (.int .i64 0)]) sz3 rfl rfl rfl rfl rfl ?_
      refine WL.nil ?_
      exact hpost undef _ hc trivial _ (fun _ hd => by cases hd)
    · intro Q ρ I1 H hI1 hk hpost
      have hc := Mem.le.refl I1
      refine fa fl29_8 rfl rfl ?_
      refine WL.nil ?_
      exact hpost _ _ hc rfl _ (fun _ hd => by obtain rfl := Option.some.inj hd; exact ⟨rfl, trivial⟩)
    · intro Q ρ I1 H hI1 hk hpost
      obtain ⟨_, _, -⟩ := hk
      have hc := Mem.le.refl I1
      refine st (C' := #[(.int .i64 p0.Kind), (.int .i64 p0.Path), (.int .i64 p0.Number), (.int .i64 p0.Of), (.int .i64 0), (.slice none 0 0), (.bool false), (.int .i64 p0.Seen), (.int .i64 p0.Limit)]) sz3 rfl rfl rfl rfl rfl ?_
      refine WL.nil ?_
      exact hpost undef _ hc trivial _ (fun _ hd => by cases hd)
    rintro ρ J12 hJ13 -
    refine WX.sub (r := [(2, (.pointer (some ⟨g3, 0, none⟩))), (3, (.pointer (some ⟨g5, 0, none⟩)))]) ?_ ⟨rfl, rfl, trivial⟩
    refine WX.is (H := bl g1 #[(.int .i64 p0.Kind), (.int .i64 p0.Path), (.int .i64 p0.Number), (.int .i64 p0.Of), (.int .i64 p0.From), (.slice a0_5 p0.Data.length c0_5), (.bool p0.Fin), (.int .i64 p0.Seen), (.int .i64 p0.Limit)] 29 :: bl g5 #[(.int .i64 p0.Kind), (.int .i64 p0.Path), (.int .i64 p0.Number), (.int .i64 p0.Of), (.int .i64 0), (.slice none 0 0), (.bool false), (.int .i64 p0.Seen), (.int .i64 p0.Limit)] 29 :: bl g3 #[(.int .i64 0), (.int .i64 0), (.int .i64 0), (.int .i64 0), (.int .i64 0), (.slice none 0 0), (.bool false), (.int .i64 0), (.int .i64 0)] 29 :: G) rfl ?_
    have hI := hI.trans hJ13
    replace hp0_5 := hp0_5.up hJ13
    refine WX.block_normal ?_
    refine WX.then_ ?_
    refine WC.seq ?_
    refine WC.region ?_
    refine lda 1 ya29 rfl rfl rfl rfl rfl ?_
    refine WL.front 2 ?_
    refine sta (C' := #[(.int .i64 p0.Kind), (.int .i64 p0.Path), (.int .i64 p0.Number), (.int .i64 p0.Of), (.int .i64 0), (.slice none 0 0), (.bool false), (.int .i64 p0.Seen), (.int .i64 p0.Limit)]) sz29 rfl rfl rfl rfl rfl rfl ?_
    refine WL.del 1 ?_
    refine WL.del 1 ?_
    refine WL.next ?_
    refine WC.ret ?_
    cases h
    exact retC1x Try.results44 (fun a w ha hw => RC.cellA ha hw 0 rfl ya29 rfl rfl) (fun w hw => hw |>.del 0) hI ⟨_, _, rfl, (IV.nil _ : IV _ _ ([] : List UInt8)), rfl⟩
  refine WC.skip ?_
  refine WX.block_normal ?_
  refine WX.then_ ?_
  refine WC.seq ?_
  refine WC.region ?_
  refine lda 0 ya29 rfl rfl rfl rfl rfl ?_
  refine WL.front 1 ?_
  refine sta (C' := #[(.int .i64 p0.Kind), (.int .i64 p0.Path), (.int .i64 p0.Number), (.int .i64 0), (.int .i64 0), (.slice none 0 0), (.bool false), (.int .i64 0), (.int .i64 0)]) sz29 rfl rfl rfl rfl rfl rfl ?_
  refine WL.del 1 ?_
  refine WL.del 1 ?_
  refine WL.next ?_
  refine WC.ret ?_
  cases h
  exact retC1x Try.results44 (fun a w ha hw => RC.cellA ha hw 0 rfl ya29 rfl rfl) (fun w hw => hw |>.del 0) hI ⟨_, _, rfl, (IV.nil _ : IV _ _ ([] : List UInt8)), rfl⟩
theorem W43 {I : Mem} {G : List Asn} {p0 : api_Packet} {p1 : api_Packet} {r : Bool} (h : packet_Same p0 p1 = some r) {u0_5 : Value} (hp0_5 : IV I u0_5 p0.Data) {u1_5 : Value} (hp1_5 : IV I u1_5 p1.Data) :
    CallsS Try.prog 43 #[.agg #[(.int .i64 p0.Kind), (.int .i64 p0.Path), (.int .i64 p0.Number), (.int .i64 p0.Of), (.int .i64 p0.From), u0_5, (.bool p0.Fin), (.int .i64 p0.Seen), (.int .i64 p0.Limit)], .agg #[(.int .i64 p1.Kind), (.int .i64 p1.Path), (.int .i64 p1.Number), (.int .i64 p1.Of), (.int .i64 p1.From), u1_5, (.bool p1.Fin), (.int .i64 p1.Seen), (.int .i64 p1.Limit)]] I (G) (fun v J G' => v = .bool r ∧ G = G') := by
  refine CallsS.enter Try.func43 rfl Try.ntmps43 rfl (fun w0 => ?_)
  have hI := Mem.le.refl I
  obtain ⟨a0_5, c0_5, rfl⟩ := hp0_5.hd
  obtain ⟨a1_5, c1_5, rfl⟩ := hp1_5.hd
  unfold packet_Same at h
  refine WC.seq ?_
  refine WC.region ?_
  refine bx rfl rfl rfl (fun g1 => ?_)
  refine bx rfl rfl rfl (fun g3 => ?_)
  refine asg rfl rfl ?_
  refine WL.next ?_
  refine WC.seq ?_
  obtain ⟨j14, hj14, h⟩ := bnd h
  refine WC.joinQ (σ := Bool) (fun x13 => [(2, (.pointer (some ⟨g1, 0, none⟩))), (3, (.pointer (some ⟨g3, 0, none⟩))), (5, (.bool x13))]) (fun x13 => bl g3 #[(.int .i64 p1.Kind), (.int .i64 p1.Path), (.int .i64 p1.Number), (.int .i64 p1.Of), (.int .i64 p1.From), (.slice a1_5 p1.Data.length c1_5), (.bool p1.Fin), (.int .i64 p1.Seen), (.int .i64 p1.Limit)] 29 :: bl g1 #[(.int .i64 p0.Kind), (.int .i64 p0.Path), (.int .i64 p0.Number), (.int .i64 p0.Of), (.int .i64 p0.From), (.slice a0_5 p0.Data.length c0_5), (.bool p0.Fin), (.int .i64 p0.Seen), (.int .i64 p0.Limit)] 29 :: G) (fun x13 J => x13 = j14) (fun kj14 => ?_) ?_
  · skip
    have lj14 := Mem.le.refl I
    refine WC.region ?_
    refine fa fl29_0 rfl rfl ?_
    refine ld 1 na3 rfl rfl rfl rfl ?_
    refine fa fl29_0 rfl rfl ?_
    refine ld 0 na3 rfl rfl rfl rfl ?_
    refine eq rfl rfl rfl ?_
    refine mv rfl rfl ?_
    rcases spl hj14 with ⟨k15, hj14⟩ | ⟨k15, hj14⟩
    · skip
      refine WL.rb 11 rfl (bT k15) ?_
      refine WL.on rfl rfl ?_
      refine fa fl29_1 rfl rfl ?_
      refine WL.on rfl rfl ?_
      refine ld 1 na3 rfl rfl rfl rfl ?_
      refine WL.on rfl rfl ?_
      refine fa fl29_1 rfl rfl ?_
      refine WL.on rfl rfl ?_
      refine ld 0 na3 rfl rfl rfl rfl ?_
      refine WL.on rfl rfl ?_
      refine eq rfl rfl rfl ?_
      refine pkT rfl rfl rfl ?_
      refine mv rfl rfl ?_
      rcases spl hj14 with ⟨k16, hj14⟩ | ⟨k16, hj14⟩
      · skip
        refine WL.rb 18 rfl (bT k16) ?_
        refine WL.on rfl rfl ?_
        refine fa fl29_2 rfl rfl ?_
        refine WL.on rfl rfl ?_
        refine ld 1 na3 rfl rfl rfl rfl ?_
        refine WL.on rfl rfl ?_
        refine fa fl29_2 rfl rfl ?_
        refine WL.on rfl rfl ?_
        refine ld 0 na3 rfl rfl rfl rfl ?_
        refine WL.on rfl rfl ?_
        refine eq rfl rfl rfl ?_
        refine pkT rfl rfl rfl ?_
        refine mv rfl rfl ?_
        rcases spl hj14 with ⟨k17, hj14⟩ | ⟨k17, hj14⟩
        · skip
          refine WL.rb 25 rfl (bT k17) ?_
          refine WL.on rfl rfl ?_
          refine fa fl29_3 rfl rfl ?_
          refine WL.on rfl rfl ?_
          refine ld 1 na3 rfl rfl rfl rfl ?_
          refine WL.on rfl rfl ?_
          refine fa fl29_3 rfl rfl ?_
          refine WL.on rfl rfl ?_
          refine ld 0 na3 rfl rfl rfl rfl ?_
          refine WL.on rfl rfl ?_
          refine eq rfl rfl rfl ?_
          refine pkT rfl rfl rfl ?_
          refine mv rfl rfl ?_
          rcases spl hj14 with ⟨k18, hj14⟩ | ⟨k18, hj14⟩
          · skip
            refine WL.rb 32 rfl (bT k18) ?_
            refine WL.on rfl rfl ?_
            refine fa fl29_4 rfl rfl ?_
            refine WL.on rfl rfl ?_
            refine ld 1 na3 rfl rfl rfl rfl ?_
            refine WL.on rfl rfl ?_
            refine fa fl29_4 rfl rfl ?_
            refine WL.on rfl rfl ?_
            refine ld 0 na3 rfl rfl rfl rfl ?_
            refine WL.on rfl rfl ?_
            refine eq rfl rfl rfl ?_
            refine pkT rfl rfl rfl ?_
            refine asg rfl rfl ?_
            refine WL.nil ?_
            refine WX.front 1 ?_
            refine WX.front 1 ?_
            exact (kj14 (decide (p0.From = p1.From)) _ lj14 (Option.some.inj hj14)).sub ⟨rfl, rfl, rfl, trivial⟩
          refine WL.rb 32 rfl (bF k18) ?_
          refine WL.no rfl rfl rfl rfl ?_
          refine WL.no rfl rfl rfl rfl ?_
          refine WL.no rfl rfl rfl rfl ?_
          refine WL.no rfl rfl rfl rfl ?_
          refine WL.no rfl rfl rfl rfl ?_
          refine pkF rfl rfl rfl ?_
          refine asg rfl rfl ?_
          refine WL.nil ?_
          refine WX.front 1 ?_
          refine WX.front 1 ?_
          exact (kj14 false _ lj14 (Option.some.inj hj14)).sub ⟨rfl, rfl, rfl, trivial⟩
        refine WL.rb 25 rfl (bF k17) ?_
        refine WL.no rfl rfl rfl rfl ?_
        refine WL.no rfl rfl rfl rfl ?_
        refine WL.no rfl rfl rfl rfl ?_
        refine WL.no rfl rfl rfl rfl ?_
        refine WL.no rfl rfl rfl rfl ?_
        refine pkF rfl rfl rfl ?_
        refine mv rfl rfl ?_
        refine WL.no rfl rfl rfl rfl ?_
        refine WL.no rfl rfl rfl rfl ?_
        refine WL.no rfl rfl rfl rfl ?_
        refine WL.no rfl rfl rfl rfl ?_
        refine WL.no rfl rfl rfl rfl ?_
        refine pkF rfl rfl rfl ?_
        refine asg rfl rfl ?_
        refine WL.nil ?_
        refine WX.front 1 ?_
        refine WX.front 1 ?_
        exact (kj14 false _ lj14 (Option.some.inj hj14)).sub ⟨rfl, rfl, rfl, trivial⟩
      refine WL.rb 18 rfl (bF k16) ?_
      refine WL.no rfl rfl rfl rfl ?_
      refine WL.no rfl rfl rfl rfl ?_
      refine WL.no rfl rfl rfl rfl ?_
      refine WL.no rfl rfl rfl rfl ?_
      refine WL.no rfl rfl rfl rfl ?_
      refine pkF rfl rfl rfl ?_
      refine mv rfl rfl ?_
      refine WL.no rfl rfl rfl rfl ?_
      refine WL.no rfl rfl rfl rfl ?_
      refine WL.no rfl rfl rfl rfl ?_
      refine WL.no rfl rfl rfl rfl ?_
      refine WL.no rfl rfl rfl rfl ?_
      refine pkF rfl rfl rfl ?_
      refine mv rfl rfl ?_
      refine WL.no rfl rfl rfl rfl ?_
      refine WL.no rfl rfl rfl rfl ?_
      refine WL.no rfl rfl rfl rfl ?_
      refine WL.no rfl rfl rfl rfl ?_
      refine WL.no rfl rfl rfl rfl ?_
      refine pkF rfl rfl rfl ?_
      refine asg rfl rfl ?_
      refine WL.nil ?_
      refine WX.front 1 ?_
      refine WX.front 1 ?_
      exact (kj14 false _ lj14 (Option.some.inj hj14)).sub ⟨rfl, rfl, rfl, trivial⟩
    refine WL.rb 11 rfl (bF k15) ?_
    refine WL.no rfl rfl rfl rfl ?_
    refine WL.no rfl rfl rfl rfl ?_
    refine WL.no rfl rfl rfl rfl ?_
    refine WL.no rfl rfl rfl rfl ?_
    refine WL.no rfl rfl rfl rfl ?_
    refine pkF rfl rfl rfl ?_
    refine mv rfl rfl ?_
    refine WL.no rfl rfl rfl rfl ?_
    refine WL.no rfl rfl rfl rfl ?_
    refine WL.no rfl rfl rfl rfl ?_
    refine WL.no rfl rfl rfl rfl ?_
    refine WL.no rfl rfl rfl rfl ?_
    refine pkF rfl rfl rfl ?_
    refine mv rfl rfl ?_
    refine WL.no rfl rfl rfl rfl ?_
    refine WL.no rfl rfl rfl rfl ?_
    refine WL.no rfl rfl rfl rfl ?_
    refine WL.no rfl rfl rfl rfl ?_
    refine WL.no rfl rfl rfl rfl ?_
    refine pkF rfl rfl rfl ?_
    refine mv rfl rfl ?_
    refine WL.no rfl rfl rfl rfl ?_
    refine WL.no rfl rfl rfl rfl ?_
    refine WL.no rfl rfl rfl rfl ?_
    refine WL.no rfl rfl rfl rfl ?_
    refine WL.no rfl rfl rfl rfl ?_
    refine pkF rfl rfl rfl ?_
    refine asg rfl rfl ?_
    refine WL.nil ?_
    refine WX.front 1 ?_
    refine WX.front 1 ?_
    exact (kj14 false _ lj14 (Option.some.inj hj14)).sub ⟨rfl, rfl, rfl, trivial⟩
  rintro x13 J19 hJ20 rfl
  have hI := hI.trans hJ20
  replace hp1_5 := hp1_5.up hJ20; replace hp0_5 := hp0_5.up hJ20
  refine WX.then_ ?_
  refine WC.seq ?_
  refine WC.region ?_
  refine mv rfl rfl ?_
  refine mv rfl rfl ?_
  rcases spl h with ⟨k21, h⟩ | ⟨k21, h⟩
  · skip
    refine WL.rb 40 rfl (bt1 k21) ?_
    refine WL.on rfl rfl ?_
    refine fa fl29_5 rfl rfl ?_
    refine WL.on rfl rfl ?_
    refine ld 1 na27 rfl rfl rfl rfl ?_
    refine WL.on rfl rfl ?_
    refine fa fl29_5 rfl rfl ?_
    refine WL.on rfl rfl ?_
    refine ld 0 na27 rfl rfl rfl rfl ?_
    refine WL.on rfl rfl ?_
    obtain ⟨x22, e23, h⟩ := bnd h
    refine call cl21 rfl rfl (W21 e23 hp0_5 hp1_5) (fun _ J24 _ hJ25 q26 => ?_)
    have hI := hI.trans hJ25
    replace hp0_5 := hp0_5.up hJ25; replace hp1_5 := hp1_5.up hJ25
    obtain ⟨rfl, rfl⟩ := q26
    refine pkT rfl rfl rfl ?_
    refine mv rfl rfl ?_
    rcases spl h with ⟨k27, h⟩ | ⟨k27, h⟩
    · skip
      refine WL.rb 47 rfl (bt1 k27) ?_
      refine WL.on rfl rfl ?_
      refine fa fl29_6 rfl rfl ?_
      refine WL.on rfl rfl ?_
      refine ld 1 na4 rfl rfl rfl rfl ?_
      refine WL.on rfl rfl ?_
      refine fa fl29_6 rfl rfl ?_
      refine WL.on rfl rfl ?_
      refine ld 0 na4 rfl rfl rfl rfl ?_
      refine WL.on rfl rfl ?_
      refine be Try.underlying4 rfl rfl rfl ?_
      refine pkT rfl rfl rfl ?_
      refine mv rfl rfl ?_
      rcases spl h with ⟨k28, h⟩ | ⟨k28, h⟩
      · skip
        refine WL.rb 54 rfl (bt1 k28) ?_
        refine WL.on rfl rfl ?_
        refine fa fl29_7 rfl rfl ?_
        refine WL.on rfl rfl ?_
        refine ld 1 na3 rfl rfl rfl rfl ?_
        refine WL.on rfl rfl ?_
        refine fa fl29_7 rfl rfl ?_
        refine WL.on rfl rfl ?_
        refine ld 0 na3 rfl rfl rfl rfl ?_
        refine WL.on rfl rfl ?_
        refine eq rfl rfl rfl ?_
        refine pkT rfl rfl rfl ?_
        refine mv rfl rfl ?_
        rcases spl h with ⟨k29, h⟩ | ⟨k29, h⟩
        · skip
          refine WL.rb 61 rfl (bT k29) ?_
          refine WL.on rfl rfl ?_
          refine fa fl29_8 rfl rfl ?_
          refine WL.on rfl rfl ?_
          refine ld 1 na3 rfl rfl rfl rfl ?_
          refine WL.on rfl rfl ?_
          refine fa fl29_8 rfl rfl ?_
          refine WL.on rfl rfl ?_
          refine ld 0 na3 rfl rfl rfl rfl ?_
          refine WL.on rfl rfl ?_
          refine eq rfl rfl rfl ?_
          refine pkT rfl rfl rfl ?_
          refine asg rfl rfl ?_
          refine WL.del 0 ?_
          refine WL.del 0 ?_
          refine WL.next ?_
          refine WC.ret ?_
          cases h
          exact ret1 Try.results43 rfl hI ⟨rfl, rfl⟩
        refine WL.rb 61 rfl (bF k29) ?_
        refine WL.no rfl rfl rfl rfl ?_
        refine WL.no rfl rfl rfl rfl ?_
        refine WL.no rfl rfl rfl rfl ?_
        refine WL.no rfl rfl rfl rfl ?_
        refine WL.no rfl rfl rfl rfl ?_
        refine pkF rfl rfl rfl ?_
        refine asg rfl rfl ?_
        refine WL.del 0 ?_
        refine WL.del 0 ?_
        refine WL.next ?_
        refine WC.ret ?_
        cases h
        exact ret1 Try.results43 rfl hI ⟨rfl, rfl⟩
      refine WL.rb 54 rfl (bf1 k28) ?_
      refine WL.no rfl rfl rfl rfl ?_
      refine WL.no rfl rfl rfl rfl ?_
      refine WL.no rfl rfl rfl rfl ?_
      refine WL.no rfl rfl rfl rfl ?_
      refine WL.no rfl rfl rfl rfl ?_
      refine pkF rfl rfl rfl ?_
      refine mv rfl rfl ?_
      refine WL.no rfl rfl rfl rfl ?_
      refine WL.no rfl rfl rfl rfl ?_
      refine WL.no rfl rfl rfl rfl ?_
      refine WL.no rfl rfl rfl rfl ?_
      refine WL.no rfl rfl rfl rfl ?_
      refine pkF rfl rfl rfl ?_
      refine asg rfl rfl ?_
      refine WL.del 0 ?_
      refine WL.del 0 ?_
      refine WL.next ?_
      refine WC.ret ?_
      cases h
      exact ret1 Try.results43 rfl hI ⟨rfl, rfl⟩
    refine WL.rb 47 rfl (bf1 k27) ?_
    refine WL.no rfl rfl rfl rfl ?_
    refine WL.no rfl rfl rfl rfl ?_
    refine WL.no rfl rfl rfl rfl ?_
    refine WL.no rfl rfl rfl rfl ?_
    refine WL.no rfl rfl rfl rfl ?_
    refine pkF rfl rfl rfl ?_
    refine mv rfl rfl ?_
    refine WL.no rfl rfl rfl rfl ?_
    refine WL.no rfl rfl rfl rfl ?_
    refine WL.no rfl rfl rfl rfl ?_
    refine WL.no rfl rfl rfl rfl ?_
    refine WL.no rfl rfl rfl rfl ?_
    refine pkF rfl rfl rfl ?_
    refine mv rfl rfl ?_
    refine WL.no rfl rfl rfl rfl ?_
    refine WL.no rfl rfl rfl rfl ?_
    refine WL.no rfl rfl rfl rfl ?_
    refine WL.no rfl rfl rfl rfl ?_
    refine WL.no rfl rfl rfl rfl ?_
    refine pkF rfl rfl rfl ?_
    refine asg rfl rfl ?_
    refine WL.del 0 ?_
    refine WL.del 0 ?_
    refine WL.next ?_
    refine WC.ret ?_
    cases h
    exact ret1 Try.results43 rfl hI ⟨rfl, rfl⟩
  refine WL.rb 40 rfl (bf1 k21) ?_
  refine WL.no rfl rfl rfl rfl ?_
  refine WL.no rfl rfl rfl rfl ?_
  refine WL.no rfl rfl rfl rfl ?_
  refine WL.no rfl rfl rfl rfl ?_
  refine WL.no rfl rfl rfl rfl ?_
  refine pkF rfl rfl rfl ?_
  refine mv rfl rfl ?_
  refine WL.no rfl rfl rfl rfl ?_
  refine WL.no rfl rfl rfl rfl ?_
  refine WL.no rfl rfl rfl rfl ?_
  refine WL.no rfl rfl rfl rfl ?_
  refine WL.no rfl rfl rfl rfl ?_
  refine pkF rfl rfl rfl ?_
  refine mv rfl rfl ?_
  refine WL.no rfl rfl rfl rfl ?_
  refine WL.no rfl rfl rfl rfl ?_
  refine WL.no rfl rfl rfl rfl ?_
  refine WL.no rfl rfl rfl rfl ?_
  refine WL.no rfl rfl rfl rfl ?_
  refine pkF rfl rfl rfl ?_
  refine mv rfl rfl ?_
  refine WL.no rfl rfl rfl rfl ?_
  refine WL.no rfl rfl rfl rfl ?_
  refine WL.no rfl rfl rfl rfl ?_
  refine WL.no rfl rfl rfl rfl ?_
  refine WL.no rfl rfl rfl rfl ?_
  refine pkF rfl rfl rfl ?_
  refine asg rfl rfl ?_
  refine WL.del 0 ?_
  refine WL.del 0 ?_
  refine WL.next ?_
  refine WC.ret ?_
  cases h
  exact ret1 Try.results43 rfl hI ⟨rfl, rfl⟩
theorem W33 {I : Mem} {G : List Asn} {p0 : api_Packet} {r : Int} (h : packet_Check p0 = some r) {u0_5 : Value} (hp0_5 : IV I u0_5 p0.Data) :
    CallsS Try.prog 33 #[.agg #[(.int .i64 p0.Kind), (.int .i64 p0.Path), (.int .i64 p0.Number), (.int .i64 p0.Of), (.int .i64 p0.From), u0_5, (.bool p0.Fin), (.int .i64 p0.Seen), (.int .i64 p0.Limit)]] I (G) (fun v J G' => v = .int .i64 r ∧ G = G') := by
  refine CallsS.enter Try.func33 rfl Try.ntmps33 rfl (fun w0 => ?_)
  have hI := Mem.le.refl I
  obtain ⟨a0_5, c0_5, rfl⟩ := hp0_5.hd
  unfold packet_Check at h
  refine WC.seq ?_
  refine WC.region ?_
  refine bx rfl rfl rfl (fun g1 => ?_)
  refine asg rfl rfl ?_
  refine WL.next ?_
  refine WC.seq ?_
  refine WC.seq ?_
  refine WC.sub (r := [(1, (.pointer (some ⟨g1, 0, none⟩)))]) ?_ ⟨rfl, trivial⟩
  obtain ⟨x3, e4, h⟩ := bnd h
  rcases spl h with ⟨k8, h⟩ | ⟨k8, h⟩
  · skip
    obtain ⟨x9, e10, h⟩ := bnd h
    rcases spl h with ⟨k14, h⟩ | ⟨k14, h⟩
    · skip
      obtain ⟨x15, e16, h⟩ := bnd h
      rcases spl h with ⟨k20, h⟩ | ⟨k20, h⟩
      · skip
        obtain ⟨x21, e22, h⟩ := bnd h
        obtain ⟨x29, e30, h⟩ := bnd h
        refine WC.drawn mo (nthL [[], [0], [0, 1], [0, 1, 2], [0, 1, 2, 3], [0, 1, 2, 3, 4], [0, 1, 2, 3, 4, 5], [0, 1, 2, 3, 4, 5, 6], [0, 1, 2, 3, 4, 5, 6, 7], [0, 1, 2, 3, 4, 5, 6, 7, 8], [0, 1, 2, 3, 4, 5, 6, 7, 8, 9], [0, 1, 2, 3, 4, 5, 6, 7, 8, 9, 10], [0, 1, 2, 3, 4, 5, 6, 7, 8, 9, 10, 11], [0, 1, 2, 3, 4, 5, 6, 7, 8, 9, 10, 11, 12], [0, 1, 2, 3, 4, 5, 6, 7, 8, 9, 10, 11, 12, 13], [0, 1, 2, 3, 4, 5, 6, 7, 8, 9, 10, 11, 12, 13, 14], [0, 1, 2, 3, 4, 5, 6, 7, 8, 9, 10, 11, 12, 13, 14, 15], [0, 1, 2, 3, 4, 5, 6, 7, 8, 9, 10, 11, 12, 13, 14, 15], [0, 1, 2, 3, 4, 5, 6, 7, 8, 9, 10, 11, 12, 13, 14, 15, 17], [0, 1, 2, 3, 4, 5, 6, 7, 8, 9, 10, 11, 12, 13, 14, 15, 16, 17, 18], [0, 1, 2, 3, 4, 5, 6, 7, 8, 9, 10, 11, 12, 13, 14, 15, 16, 17, 18, 19], [0, 1, 2, 3, 4, 5, 6, 7, 8, 9, 10, 11, 12, 13, 14, 15, 16, 17, 18, 19, 20]]) (nthL [[], [0], [1], [2], [3], [3, 4], [3, 5], [3, 6], [3, 7], [8], [9], [9, 10], [9, 11], [9, 12], [9, 13], [14], [15], [15], [15, 17], [15, 16, 18], [15, 19], [15, 20]]) (nthK [.val (.agg #[(.int .i64 p0.Kind), (.int .i64 p0.Path), (.int .i64 p0.Number), (.int .i64 p0.Of), (.int .i64 p0.From), (.slice a0_5 p0.Data.length c0_5), (.bool p0.Fin), (.int .i64 p0.Seen), (.int .i64 p0.Limit)]), .val (.bool x3), .val (.bool (!x3)), .val (.bool false), .val (.pointer (some ⟨g1, 1, none⟩)), .val (.int .i64 p0.Path), .val (.bool x9), .val (.bool (!x9)), .val (.bool (!x9)), .val (.bool false), .val (.pointer (some ⟨g1, 2, none⟩)), .val (.int .i64 p0.Number), .val (.bool x15), .val (.bool (!x15)), .val (.bool (!x15)), .val (.bool false), .val (.agg #[(.int .i64 p0.Kind), (.int .i64 p0.Path), (.int .i64 p0.Number), (.int .i64 p0.Of), (.int .i64 p0.From), (.slice a0_5 p0.Data.length c0_5), (.bool p0.Fin), (.int .i64 p0.Seen), (.int .i64 p0.Limit)]), .val (.agg #[(.int .i64 p0.Kind), (.int .i64 p0.Path), (.int .i64 p0.Number), (.int .i64 p0.Of), (.int .i64 p0.From), (.slice a0_5 p0.Data.length c0_5), (.bool p0.Fin), (.int .i64 p0.Seen), (.int .i64 p0.Limit)]), .of (fun v I => ∃ a18_0 c18_0, v = (.agg #[(.int .i64 x21.Kind), (.int .i64 x21.Path), (.int .i64 x21.Number), (.int .i64 x21.Of), (.int .i64 x21.From), (.slice a18_0 x21.Data.length c18_0), (.bool x21.Fin), (.int .i64 x21.Seen), (.int .i64 x21.Limit)]) ∧ IV I (.slice a18_0 x21.Data.length c18_0) x21.Data) (fun q ⟨a18_0, c18_0, e, h18_0⟩ => ⟨a18_0, c18_0, e, h18_0.up q⟩), .val (.bool x29), .val (.bool (!x29)), .val (.bool (!x29))]) [⟨none, none, [0, 5, 11, 16, 17], [], fun _ => bl g1 #[(.int .i64 p0.Kind), (.int .i64 p0.Path), (.int .i64 p0.Number), (.int .i64 p0.Of), (.int .i64 p0.From), (.slice a0_5 p0.Data.length c0_5), (.bool p0.Fin), (.int .i64 p0.Seen), (.int .i64 p0.Limit)] 29⟩] (by kernel_rfl) (by kernel_rfl) (by kernel_rfl) (H := G) rfl ⟨?_, ?_, ?_, ?_, ?_, ?_, ?_, ?_, ?_, ?_, ?_, ?_, ?_, ?_, ?_, ?_, ?_, ?_, ?_, ?_, ?_, ?_, trivial⟩ ?_
        · intro Q ρ I1 H hI1 hk hpost
          have hc := Mem.le.refl I1
          refine lda 0 ya29 rfl rfl rfl rfl rfl ?_
          refine WL.nil ?_
          exact hpost _ _ hc rfl _ (fun _ hd => by obtain rfl := Option.some.inj hd; exact ⟨rfl, trivial⟩)
        · intro Q ρ I1 H hI1 hk hpost
          obtain ⟨_, -⟩ := hk
          replace hp0_5 := hp0_5.up hI1
          have hc := Mem.le.refl I1
          refine call cl41 rfl rfl (W41 e4 hp0_5) (fun _ J5 _ hJ6 q7 => ?_)
          have hc := hc.trans hJ6
          replace hp0_5 := hp0_5.up hJ6
          obtain ⟨rfl, rfl⟩ := q7
          refine WL.nil ?_
          exact hpost _ _ hc rfl _ (fun _ hd => by obtain rfl := Option.some.inj hd; exact ⟨rfl, trivial⟩)
        · intro Q ρ I1 H hI1 hk hpost
          obtain ⟨_, -⟩ := hk
          have hc := Mem.le.refl I1
          refine nt rfl rfl ?_
          refine WL.nil ?_
          exact hpost _ _ hc rfl _ (fun _ hd => by obtain rfl := Option.some.inj hd; exact ⟨rfl, trivial⟩)
        · intro Q ρ I1 H hI1 hk hpost
          obtain ⟨_, -⟩ := hk
          have hc := Mem.le.refl I1
          refine mv rfl rfl ?_
          refine WL.nil ?_
          exact hpost _ _ hc (bt1n k8) _ (fun _ hd => by obtain rfl := Option.some.inj hd; exact ⟨rfl, trivial⟩)
        · intro Q ρ I1 H hI1 hk hpost
          obtain ⟨_, -⟩ := hk
          have hc := Mem.le.refl I1
          refine WL.on rfl rfl ?_
          refine fa fl29_1 rfl rfl ?_
          refine WL.nil ?_
          exact hpost _ _ hc rfl _ (fun _ hd => by obtain rfl := Option.some.inj hd; exact ⟨rfl, trivial⟩)
        · intro Q ρ I1 H hI1 hk hpost
          obtain ⟨_, _, -⟩ := hk
          have hc := Mem.le.refl I1
          refine WL.on rfl rfl ?_
          refine ld 0 na3 rfl rfl rfl rfl ?_
          refine WL.nil ?_
          exact hpost _ _ hc rfl _ (fun _ hd => by obtain rfl := Option.some.inj hd; exact ⟨rfl, trivial⟩)
        · intro Q ρ I1 H hI1 hk hpost
          obtain ⟨_, _, -⟩ := hk
          have hc := Mem.le.refl I1
          refine WL.on rfl rfl ?_
          refine call cl42 rfl rfl (W42 e10) (fun _ J11 _ hJ12 q13 => ?_)
          have hc := hc.trans hJ12
          obtain ⟨rfl, rfl⟩ := q13
          refine WL.nil ?_
          exact hpost _ _ hc rfl _ (fun _ hd => by obtain rfl := Option.some.inj hd; exact ⟨rfl, trivial⟩)
        · intro Q ρ I1 H hI1 hk hpost
          obtain ⟨_, _, -⟩ := hk
          have hc := Mem.le.refl I1
          refine WL.on rfl rfl ?_
          refine nt rfl rfl ?_
          refine WL.nil ?_
          exact hpost _ _ hc rfl _ (fun _ hd => by obtain rfl := Option.some.inj hd; exact ⟨rfl, trivial⟩)
        · intro Q ρ I1 H hI1 hk hpost
          obtain ⟨_, _, -⟩ := hk
          have hc := Mem.le.refl I1
          refine pkF rfl rfl rfl ?_
          refine WL.nil ?_
          exact hpost _ _ hc rfl _ (fun _ hd => by obtain rfl := Option.some.inj hd; exact ⟨rfl, trivial⟩)
        · intro Q ρ I1 H hI1 hk hpost
          obtain ⟨_, -⟩ := hk
          have hc := Mem.le.refl I1
          refine mv rfl rfl ?_
          refine WL.nil ?_
          exact hpost _ _ hc (bt1n k14) _ (fun _ hd => by obtain rfl := Option.some.inj hd; exact ⟨rfl, trivial⟩)
        · intro Q ρ I1 H hI1 hk hpost
          obtain ⟨_, -⟩ := hk
          have hc := Mem.le.refl I1
          refine WL.on rfl rfl ?_
          refine fa fl29_2 rfl rfl ?_
          refine WL.nil ?_
          exact hpost _ _ hc rfl _ (fun _ hd => by obtain rfl := Option.some.inj hd; exact ⟨rfl, trivial⟩)
        · intro Q ρ I1 H hI1 hk hpost
          obtain ⟨_, _, -⟩ := hk
          have hc := Mem.le.refl I1
          refine WL.on rfl rfl ?_
          refine ld 0 na3 rfl rfl rfl rfl ?_
          refine WL.nil ?_
          exact hpost _ _ hc rfl _ (fun _ hd => by obtain rfl := Option.some.inj hd; exact ⟨rfl, trivial⟩)
        · intro Q ρ I1 H hI1 hk hpost
          obtain ⟨_, _, -⟩ := hk
          have hc := Mem.le.refl I1
          refine WL.on rfl rfl ?_
          refine call cl42 rfl rfl (W42 e16) (fun _ J17 _ hJ18 q19 => ?_)
          have hc := hc.trans hJ18
          obtain ⟨rfl, rfl⟩ := q19
          refine WL.nil ?_
          exact hpost _ _ hc rfl _ (fun _ hd => by obtain rfl := Option.some.inj hd; exact ⟨rfl, trivial⟩)
        · intro Q ρ I1 H hI1 hk hpost
          obtain ⟨_, _, -⟩ := hk
          have hc := Mem.le.refl I1
          refine WL.on rfl rfl ?_
          refine nt rfl rfl ?_
          refine WL.nil ?_
          exact hpost _ _ hc rfl _ (fun _ hd => by obtain rfl := Option.some.inj hd; exact ⟨rfl, trivial⟩)
        · intro Q ρ I1 H hI1 hk hpost
          obtain ⟨_, _, -⟩ := hk
          have hc := Mem.le.refl I1
          refine pkF rfl rfl rfl ?_
          refine WL.nil ?_
          exact hpost _ _ hc rfl _ (fun _ hd => by obtain rfl := Option.some.inj hd; exact ⟨rfl, trivial⟩)
        · intro Q ρ I1 H hI1 hk hpost
          obtain ⟨_, -⟩ := hk
          have hc := Mem.le.refl I1
          refine mv rfl rfl ?_
          refine WL.nil ?_
          exact hpost _ _ hc (bt1n k20) _ (fun _ hd => by obtain rfl := Option.some.inj hd; exact ⟨rfl, trivial⟩)
        · intro Q ρ I1 H hI1 hk hpost
          obtain ⟨_, -⟩ := hk
          have hc := Mem.le.refl I1
          refine WL.on rfl rfl ?_
          refine lda 0 ya29 rfl rfl rfl rfl rfl ?_
          refine WL.nil ?_
          exact hpost _ _ hc rfl _ (fun _ hd => by obtain rfl := Option.some.inj hd; exact ⟨rfl, trivial⟩)
        · intro Q ρ I1 H hI1 hk hpost
          obtain ⟨_, -⟩ := hk
          have hc := Mem.le.refl I1
          refine WL.on rfl rfl ?_
          refine lda 0 ya29 rfl rfl rfl rfl rfl ?_
          refine WL.nil ?_
          exact hpost _ _ hc rfl _ (fun _ hd => by obtain rfl := Option.some.inj hd; exact ⟨rfl, trivial⟩)
        · intro Q ρ I1 H hI1 hk hpost
          obtain ⟨_, _, -⟩ := hk
          replace hp0_5 := hp0_5.up hI1
          have hc := Mem.le.refl I1
          refine WL.on rfl rfl ?_
          refine call cl44 rfl rfl (W44 e22 hp0_5) (fun _ J23 _ hJ24 q25 => ?_)
          have hc := hc.trans hJ24
          replace hp0_5 := hp0_5.up hJ24
          obtain ⟨a26, c27, rfl, h28, rfl⟩ := q25
          refine WL.nil ?_
          exact hpost _ _ hc ⟨_, _, rfl, h28⟩ _ (fun _ hd => by obtain rfl := Option.some.inj hd; exact ⟨rfl, trivial⟩)
        · intro Q ρ I1 H hI1 hk hpost
          obtain ⟨_, _, k18, -⟩ := hk
          replace hp0_5 := hp0_5.up hI1
          have hc := Mem.le.refl I1
          refine WL.sub (r := [(18, (.bool false)), (19, (.agg #[(.int .i64 p0.Kind), (.int .i64 p0.Path), (.int .i64 p0.Number), (.int .i64 p0.Of), (.int .i64 p0.From), (.slice a0_5 p0.Data.length c0_5), (.bool p0.Fin), (.int .i64 p0.Seen), (.int .i64 p0.Limit)])), (21, (ρ 18))]) ?_ ⟨rfl, rfl, rfl, trivial⟩
          obtain ⟨a18_0, c18_0, ex18, h18_0⟩ := k18
          try rw [ex18]
          refine WL.on rfl rfl ?_
          refine call cl43 rfl rfl (W43 e30 hp0_5 h18_0) (fun _ J31 _ hJ32 q33 => ?_)
          have hc := hc.trans hJ32
          replace hp0_5 := hp0_5.up hJ32; replace h18_0 := h18_0.up hJ32
          obtain ⟨rfl, rfl⟩ := q33
          refine WL.nil ?_
          exact hpost _ _ hc rfl _ (fun _ hd => by obtain rfl := Option.some.inj hd; exact ⟨rfl, trivial⟩)
        · intro Q ρ I1 H hI1 hk hpost
          obtain ⟨_, _, -⟩ := hk
          have hc := Mem.le.refl I1
          refine WL.on rfl rfl ?_
          refine nt rfl rfl ?_
          refine WL.nil ?_
          exact hpost _ _ hc rfl _ (fun _ hd => by obtain rfl := Option.some.inj hd; exact ⟨rfl, trivial⟩)
        · intro Q ρ I1 H hI1 hk hpost
          obtain ⟨_, _, -⟩ := hk
          have hc := Mem.le.refl I1
          refine pkF rfl rfl rfl ?_
          refine WL.nil ?_
          exact hpost _ _ hc rfl _ (fun _ hd => by obtain rfl := Option.some.inj hd; exact ⟨rfl, trivial⟩)
        rintro ρ J34 hJ35 -
        refine WX.sub (r := [(24, (.bool (!x29)))]) ?_ ⟨rfl, trivial⟩
        refine WX.is (H := bl g1 #[(.int .i64 p0.Kind), (.int .i64 p0.Path), (.int .i64 p0.Number), (.int .i64 p0.Of), (.int .i64 p0.From), (.slice a0_5 p0.Data.length c0_5), (.bool p0.Fin), (.int .i64 p0.Seen), (.int .i64 p0.Limit)] 29 :: G) rfl ?_
        have hI := hI.trans hJ35
        replace hp0_5 := hp0_5.up hJ35
        refine WX.then_ ?_
        refine WC.itebn rfl h (fun k36 h => ?_) (fun k36 h => ?_)
        · skip
          refine WC.skip ?_
          refine WX.then_ ?_
          refine WC.seq ?_
          refine WC.region ?_
          refine asg rfl rfl ?_
          refine WL.del 0 ?_
          refine WL.next ?_
          refine WC.ret ?_
          cases h
          exact ret1 Try.results33 rfl hI ⟨rfl, rfl⟩
        refine WC.seq ?_
        refine WC.region ?_
        refine asg rfl rfl ?_
        refine WL.del 0 ?_
        refine WL.next ?_
        refine WC.ret ?_
        refine WX.then_ret ?_
        cases h
        exact ret1 Try.results33 rfl hI ⟨rfl, rfl⟩
      refine WC.drawn mo (nthL [[], [0], [0, 1], [0, 1, 2], [0, 1, 2, 3], [0, 1, 2, 3, 4], [0, 1, 2, 3, 4, 5], [0, 1, 2, 3, 4, 5, 6], [0, 1, 2, 3, 4, 5, 6, 7], [0, 1, 2, 3, 4, 5, 6, 7, 8], [0, 1, 2, 3, 4, 5, 6, 7, 8, 9], [0, 1, 2, 3, 4, 5, 6, 7, 8, 9, 10], [0, 1, 2, 3, 4, 5, 6, 7, 8, 9, 10, 11], [0, 1, 2, 3, 4, 5, 6, 7, 8, 9, 10, 11, 12], [0, 1, 2, 3, 4, 5, 6, 7, 8, 9, 10, 11, 12, 13], [0, 1, 2, 3, 4, 5, 6, 7, 8, 9, 10, 11, 12, 13, 14], [0, 1, 2, 3, 4, 5, 6, 7, 8, 9, 10, 11, 12, 13, 14, 15], [0, 1, 2, 3, 4, 5, 6, 7, 8, 9, 10, 11, 12, 13, 14, 15], [0, 1, 2, 3, 4, 5, 6, 7, 8, 9, 10, 11, 12, 13, 14, 15, 17], [0, 1, 2, 3, 4, 5, 6, 7, 8, 9, 10, 11, 12, 13, 14, 15, 16, 17, 18], [0, 1, 2, 3, 4, 5, 6, 7, 8, 9, 10, 11, 12, 13, 14, 15, 16, 17, 18, 19], [0, 1, 2, 3, 4, 5, 6, 7, 8, 9, 10, 11, 12, 13, 14, 15, 16, 17, 18, 19, 20]]) (nthL [[], [0], [1], [2], [3], [3, 4], [3, 5], [3, 6], [3, 7], [8], [9], [9, 10], [9, 11], [9, 12], [9, 13], [14], [15], [15], [15], [15], [15], [15, 20]]) (nthK [.val (.agg #[(.int .i64 p0.Kind), (.int .i64 p0.Path), (.int .i64 p0.Number), (.int .i64 p0.Of), (.int .i64 p0.From), (.slice a0_5 p0.Data.length c0_5), (.bool p0.Fin), (.int .i64 p0.Seen), (.int .i64 p0.Limit)]), .val (.bool x3), .val (.bool (!x3)), .val (.bool false), .val (.pointer (some ⟨g1, 1, none⟩)), .val (.int .i64 p0.Path), .val (.bool x9), .val (.bool (!x9)), .val (.bool (!x9)), .val (.bool false), .val (.pointer (some ⟨g1, 2, none⟩)), .val (.int .i64 p0.Number), .val (.bool x15), .val (.bool (!x15)), .val (.bool (!x15)), .val (.bool true), .val undef, .val undef, .val undef, .val undef, .val undef, .val (.bool true)]) [⟨none, none, [0, 5, 11], [], fun _ => bl g1 #[(.int .i64 p0.Kind), (.int .i64 p0.Path), (.int .i64 p0.Number), (.int .i64 p0.Of), (.int .i64 p0.From), (.slice a0_5 p0.Data.length c0_5), (.bool p0.Fin), (.int .i64 p0.Seen), (.int .i64 p0.Limit)] 29⟩] (by kernel_rfl) (by kernel_rfl) (by kernel_rfl) (H := G) rfl ⟨?_, ?_, ?_, ?_, ?_, ?_, ?_, ?_, ?_, ?_, ?_, ?_, ?_, ?_, ?_, ?_, ?_, ?_, ?_, ?_, ?_, ?_, trivial⟩ ?_
      · intro Q ρ I1 H hI1 hk hpost
        have hc := Mem.le.refl I1
        refine lda 0 ya29 rfl rfl rfl rfl rfl ?_
        refine WL.nil ?_
        exact hpost _ _ hc rfl _ (fun _ hd => by obtain rfl := Option.some.inj hd; exact ⟨rfl, trivial⟩)
      · intro Q ρ I1 H hI1 hk hpost
        obtain ⟨_, -⟩ := hk
        replace hp0_5 := hp0_5.up hI1
        have hc := Mem.le.refl I1
        refine call cl41 rfl rfl (W41 e4 hp0_5) (fun _ J5 _ hJ6 q7 => ?_)
        have hc := hc.trans hJ6
        replace hp0_5 := hp0_5.up hJ6
        obtain ⟨rfl, rfl⟩ := q7
        refine WL.nil ?_
        exact hpost _ _ hc rfl _ (fun _ hd => by obtain rfl := Option.some.inj hd; exact ⟨rfl, trivial⟩)
      · intro Q ρ I1 H hI1 hk hpost
        obtain ⟨_, -⟩ := hk
        have hc := Mem.le.refl I1
        refine nt rfl rfl ?_
        refine WL.nil ?_
        exact hpost _ _ hc rfl _ (fun _ hd => by obtain rfl := Option.some.inj hd; exact ⟨rfl, trivial⟩)
      · intro Q ρ I1 H hI1 hk hpost
        obtain ⟨_, -⟩ := hk
        have hc := Mem.le.refl I1
        refine mv rfl rfl ?_
        refine WL.nil ?_
        exact hpost _ _ hc (bt1n k8) _ (fun _ hd => by obtain rfl := Option.some.inj hd; exact ⟨rfl, trivial⟩)
      · intro Q ρ I1 H hI1 hk hpost
        obtain ⟨_, -⟩ := hk
        have hc := Mem.le.refl I1
        refine WL.on rfl rfl ?_
        refine fa fl29_1 rfl rfl ?_
        refine WL.nil ?_
        exact hpost _ _ hc rfl _ (fun _ hd => by obtain rfl := Option.some.inj hd; exact ⟨rfl, trivial⟩)
      · intro Q ρ I1 H hI1 hk hpost
        obtain ⟨_, _, -⟩ := hk
        have hc := Mem.le.refl I1
        refine WL.on rfl rfl ?_
        refine ld 0 na3 rfl rfl rfl rfl ?_
        refine WL.nil ?_
        exact hpost _ _ hc rfl _ (fun _ hd => by obtain rfl := Option.some.inj hd; exact ⟨rfl, trivial⟩)
      · intro Q ρ I1 H hI1 hk hpost
        obtain ⟨_, _, -⟩ := hk
        have hc := Mem.le.refl I1
        refine WL.on rfl rfl ?_
        refine call cl42 rfl rfl (W42 e10) (fun _ J11 _ hJ12 q13 => ?_)
        have hc := hc.trans hJ12
        obtain ⟨rfl, rfl⟩ := q13
        refine WL.nil ?_
        exact hpost _ _ hc rfl _ (fun _ hd => by obtain rfl := Option.some.inj hd; exact ⟨rfl, trivial⟩)
      · intro Q ρ I1 H hI1 hk hpost
        obtain ⟨_, _, -⟩ := hk
        have hc := Mem.le.refl I1
        refine WL.on rfl rfl ?_
        refine nt rfl rfl ?_
        refine WL.nil ?_
        exact hpost _ _ hc rfl _ (fun _ hd => by obtain rfl := Option.some.inj hd; exact ⟨rfl, trivial⟩)
      · intro Q ρ I1 H hI1 hk hpost
        obtain ⟨_, _, -⟩ := hk
        have hc := Mem.le.refl I1
        refine pkF rfl rfl rfl ?_
        refine WL.nil ?_
        exact hpost _ _ hc rfl _ (fun _ hd => by obtain rfl := Option.some.inj hd; exact ⟨rfl, trivial⟩)
      · intro Q ρ I1 H hI1 hk hpost
        obtain ⟨_, -⟩ := hk
        have hc := Mem.le.refl I1
        refine mv rfl rfl ?_
        refine WL.nil ?_
        exact hpost _ _ hc (bt1n k14) _ (fun _ hd => by obtain rfl := Option.some.inj hd; exact ⟨rfl, trivial⟩)
      · intro Q ρ I1 H hI1 hk hpost
        obtain ⟨_, -⟩ := hk
        have hc := Mem.le.refl I1
        refine WL.on rfl rfl ?_
        refine fa fl29_2 rfl rfl ?_
        refine WL.nil ?_
        exact hpost _ _ hc rfl _ (fun _ hd => by obtain rfl := Option.some.inj hd; exact ⟨rfl, trivial⟩)
      · intro Q ρ I1 H hI1 hk hpost
        obtain ⟨_, _, -⟩ := hk
        have hc := Mem.le.refl I1
        refine WL.on rfl rfl ?_
        refine ld 0 na3 rfl rfl rfl rfl ?_
        refine WL.nil ?_
        exact hpost _ _ hc rfl _ (fun _ hd => by obtain rfl := Option.some.inj hd; exact ⟨rfl, trivial⟩)
      · intro Q ρ I1 H hI1 hk hpost
        obtain ⟨_, _, -⟩ := hk
        have hc := Mem.le.refl I1
        refine WL.on rfl rfl ?_
        refine call cl42 rfl rfl (W42 e16) (fun _ J17 _ hJ18 q19 => ?_)
        have hc := hc.trans hJ18
        obtain ⟨rfl, rfl⟩ := q19
        refine WL.nil ?_
        exact hpost _ _ hc rfl _ (fun _ hd => by obtain rfl := Option.some.inj hd; exact ⟨rfl, trivial⟩)
      · intro Q ρ I1 H hI1 hk hpost
        obtain ⟨_, _, -⟩ := hk
        have hc := Mem.le.refl I1
        refine WL.on rfl rfl ?_
        refine nt rfl rfl ?_
        refine WL.nil ?_
        exact hpost _ _ hc rfl _ (fun _ hd => by obtain rfl := Option.some.inj hd; exact ⟨rfl, trivial⟩)
      · intro Q ρ I1 H hI1 hk hpost
        obtain ⟨_, _, -⟩ := hk
        have hc := Mem.le.refl I1
        refine pkF rfl rfl rfl ?_
        refine WL.nil ?_
        exact hpost _ _ hc rfl _ (fun _ hd => by obtain rfl := Option.some.inj hd; exact ⟨rfl, trivial⟩)
      · intro Q ρ I1 H hI1 hk hpost
        obtain ⟨_, -⟩ := hk
        have hc := Mem.le.refl I1
        refine mv rfl rfl ?_
        refine WL.nil ?_
        exact hpost _ _ hc (bf1n k20) _ (fun _ hd => by obtain rfl := Option.some.inj hd; exact ⟨rfl, trivial⟩)
      · intro Q ρ I1 H hI1 hk hpost
        obtain ⟨_, -⟩ := hk
        have hc := Mem.le.refl I1
        refine WL.no rfl rfl rfl rfl ?_
        refine WL.nil ?_
        exact hpost _ _ hc rfl _ (fun _ hd => by obtain rfl := Option.some.inj hd; exact ⟨rfl, trivial⟩)
      · intro Q ρ I1 H hI1 hk hpost
        obtain ⟨_, -⟩ := hk
        have hc := Mem.le.refl I1
        refine WL.no rfl rfl rfl rfl ?_
        refine WL.nil ?_
        exact hpost _ _ hc rfl _ (fun _ hd => by obtain rfl := Option.some.inj hd; exact ⟨rfl, trivial⟩)
      · intro Q ρ I1 H hI1 hk hpost
        obtain ⟨_, -⟩ := hk
        have hc := Mem.le.refl I1
        refine WL.no rfl rfl rfl rfl ?_
        refine WL.nil ?_
        exact hpost _ _ hc rfl _ (fun _ hd => by obtain rfl := Option.some.inj hd; exact ⟨rfl, trivial⟩)
      · intro Q ρ I1 H hI1 hk hpost
        obtain ⟨_, -⟩ := hk
        have hc := Mem.le.refl I1
        refine WL.no rfl rfl rfl rfl ?_
        refine WL.nil ?_
        exact hpost _ _ hc rfl _ (fun _ hd => by obtain rfl := Option.some.inj hd; exact ⟨rfl, trivial⟩)
      · intro Q ρ I1 H hI1 hk hpost
        obtain ⟨_, -⟩ := hk
        have hc := Mem.le.refl I1
        refine WL.no rfl rfl rfl rfl ?_
        refine WL.nil ?_
        exact hpost _ _ hc rfl _ (fun _ hd => by obtain rfl := Option.some.inj hd; exact ⟨rfl, trivial⟩)
      · intro Q ρ I1 H hI1 hk hpost
        obtain ⟨_, _, -⟩ := hk
        have hc := Mem.le.refl I1
        refine pkT rfl rfl rfl ?_
        refine WL.nil ?_
        exact hpost _ _ hc rfl _ (fun _ hd => by obtain rfl := Option.some.inj hd; exact ⟨rfl, trivial⟩)
      rintro ρ J37 hJ38 -
      refine WX.sub (r := [(24, (.bool true))]) ?_ ⟨rfl, trivial⟩
      refine WX.is (H := bl g1 #[(.int .i64 p0.Kind), (.int .i64 p0.Path), (.int .i64 p0.Number), (.int .i64 p0.Of), (.int .i64 p0.From), (.slice a0_5 p0.Data.length c0_5), (.bool p0.Fin), (.int .i64 p0.Seen), (.int .i64 p0.Limit)] 29 :: G) rfl ?_
      have hI := hI.trans hJ38
      replace hp0_5 := hp0_5.up hJ38
      refine WX.then_ ?_
      refine WC.cond rfl (fun _ => ?_) (fun k => by cases k)
      refine WC.seq ?_
      refine WC.region ?_
      refine asg rfl rfl ?_
      refine WL.del 0 ?_
      refine WL.next ?_
      refine WC.ret ?_
      refine WX.then_ret ?_
      cases h
      exact ret1 Try.results33 rfl hI ⟨rfl, rfl⟩
    refine WC.drawn mo (nthL [[], [0], [0, 1], [0, 1, 2], [0, 1, 2, 3], [0, 1, 2, 3, 4], [0, 1, 2, 3, 4, 5], [0, 1, 2, 3, 4, 5, 6], [0, 1, 2, 3, 4, 5, 6, 7], [0, 1, 2, 3, 4, 5, 6, 7, 8], [0, 1, 2, 3, 4, 5, 6, 7, 8, 9], [0, 1, 2, 3, 4, 5, 6, 7, 8, 9, 10], [0, 1, 2, 3, 4, 5, 6, 7, 8, 9, 10, 11], [0, 1, 2, 3, 4, 5, 6, 7, 8, 9, 10, 11, 12], [0, 1, 2, 3, 4, 5, 6, 7, 8, 9, 10, 11, 12, 13], [0, 1, 2, 3, 4, 5, 6, 7, 8, 9, 10, 11, 12, 13, 14], [0, 1, 2, 3, 4, 5, 6, 7, 8, 9, 10, 11, 12, 13, 14, 15], [0, 1, 2, 3, 4, 5, 6, 7, 8, 9, 10, 11, 12, 13, 14, 15], [0, 1, 2, 3, 4, 5, 6, 7, 8, 9, 10, 11, 12, 13, 14, 15, 17], [0, 1, 2, 3, 4, 5, 6, 7, 8, 9, 10, 11, 12, 13, 14, 15, 16, 17, 18], [0, 1, 2, 3, 4, 5, 6, 7, 8, 9, 10, 11, 12, 13, 14, 15, 16, 17, 18, 19], [0, 1, 2, 3, 4, 5, 6, 7, 8, 9, 10, 11, 12, 13, 14, 15, 16, 17, 18, 19, 20]]) (nthL [[], [0], [1], [2], [3], [3, 4], [3, 5], [3, 6], [3, 7], [8], [9], [9], [9], [9], [9, 13], [14], [15], [15], [15], [15], [15], [15, 20]]) (nthK [.val (.agg #[(.int .i64 p0.Kind), (.int .i64 p0.Path), (.int .i64 p0.Number), (.int .i64 p0.Of), (.int .i64 p0.From), (.slice a0_5 p0.Data.length c0_5), (.bool p0.Fin), (.int .i64 p0.Seen), (.int .i64 p0.Limit)]), .val (.bool x3), .val (.bool (!x3)), .val (.bool false), .val (.pointer (some ⟨g1, 1, none⟩)), .val (.int .i64 p0.Path), .val (.bool x9), .val (.bool (!x9)), .val (.bool (!x9)), .val (.bool true), .val undef, .val undef, .val undef, .val undef, .val (.bool true), .val (.bool true), .val undef, .val undef, .val undef, .val undef, .val undef, .val (.bool true)]) [⟨none, none, [0, 5], [], fun _ => bl g1 #[(.int .i64 p0.Kind), (.int .i64 p0.Path), (.int .i64 p0.Number), (.int .i64 p0.Of), (.int .i64 p0.From), (.slice a0_5 p0.Data.length c0_5), (.bool p0.Fin), (.int .i64 p0.Seen), (.int .i64 p0.Limit)] 29⟩] (by kernel_rfl) (by kernel_rfl) (by kernel_rfl) (H := G) rfl ⟨?_, ?_, ?_, ?_, ?_, ?_, ?_, ?_, ?_, ?_, ?_, ?_, ?_, ?_, ?_, ?_, ?_, ?_, ?_, ?_, ?_, ?_, trivial⟩ ?_
    · intro Q ρ I1 H hI1 hk hpost
      have hc := Mem.le.refl I1
      refine lda 0 ya29 rfl rfl rfl rfl rfl ?_
      refine WL.nil ?_
      exact hpost _ _ hc rfl _ (fun _ hd => by obtain rfl := Option.some.inj hd; exact ⟨rfl, trivial⟩)
    · intro Q ρ I1 H hI1 hk hpost
      obtain ⟨_, -⟩ := hk
      replace hp0_5 := hp0_5.up hI1
      have hc := Mem.le.refl I1
      refine call cl41 rfl rfl (W41 e4 hp0_5) (fun _ J5 _ hJ6 q7 => ?_)
      have hc := hc.trans hJ6
      replace hp0_5 := hp0_5.up hJ6
      obtain ⟨rfl, rfl⟩ := q7
      refine WL.nil ?_
      exact hpost _ _ hc rfl _ (fun _ hd => by obtain rfl := Option.some.inj hd; exact ⟨rfl, trivial⟩)
    · intro Q ρ I1 H hI1 hk hpost
      obtain ⟨_, -⟩ := hk
      have hc := Mem.le.refl I1
      refine nt rfl rfl ?_
      refine WL.nil ?_
      exact hpost _ _ hc rfl _ (fun _ hd => by obtain rfl := Option.some.inj hd; exact ⟨rfl, trivial⟩)
    · intro Q ρ I1 H hI1 hk hpost
      obtain ⟨_, -⟩ := hk
      have hc := Mem.le.refl I1
      refine mv rfl rfl ?_
      refine WL.nil ?_
      exact hpost _ _ hc (bt1n k8) _ (fun _ hd => by obtain rfl := Option.some.inj hd; exact ⟨rfl, trivial⟩)
    · intro Q ρ I1 H hI1 hk hpost
      obtain ⟨_, -⟩ := hk
      have hc := Mem.le.refl I1
      refine WL.on rfl rfl ?_
      refine fa fl29_1 rfl rfl ?_
      refine WL.nil ?_
      exact hpost _ _ hc rfl _ (fun _ hd => by obtain rfl := Option.some.inj hd; exact ⟨rfl, trivial⟩)
    · intro Q ρ I1 H hI1 hk hpost
      obtain ⟨_, _, -⟩ := hk
      have hc := Mem.le.refl I1
      refine WL.on rfl rfl ?_
      refine ld 0 na3 rfl rfl rfl rfl ?_
      refine WL.nil ?_
      exact hpost _ _ hc rfl _ (fun _ hd => by obtain rfl := Option.some.inj hd; exact ⟨rfl, trivial⟩)
    · intro Q ρ I1 H hI1 hk hpost
      obtain ⟨_, _, -⟩ := hk
      have hc := Mem.le.refl I1
      refine WL.on rfl rfl ?_
      refine call cl42 rfl rfl (W42 e10) (fun _ J11 _ hJ12 q13 => ?_)
      have hc := hc.trans hJ12
      obtain ⟨rfl, rfl⟩ := q13
      refine WL.nil ?_
      exact hpost _ _ hc rfl _ (fun _ hd => by obtain rfl := Option.some.inj hd; exact ⟨rfl, trivial⟩)
    · intro Q ρ I1 H hI1 hk hpost
      obtain ⟨_, _, -⟩ := hk
      have hc := Mem.le.refl I1
      refine WL.on rfl rfl ?_
      refine nt rfl rfl ?_
      refine WL.nil ?_
      exact hpost _ _ hc rfl _ (fun _ hd => by obtain rfl := Option.some.inj hd; exact ⟨rfl, trivial⟩)
    · intro Q ρ I1 H hI1 hk hpost
      obtain ⟨_, _, -⟩ := hk
      have hc := Mem.le.refl I1
      refine pkF rfl rfl rfl ?_
      refine WL.nil ?_
      exact hpost _ _ hc rfl _ (fun _ hd => by obtain rfl := Option.some.inj hd; exact ⟨rfl, trivial⟩)
    · intro Q ρ I1 H hI1 hk hpost
      obtain ⟨_, -⟩ := hk
      have hc := Mem.le.refl I1
      refine mv rfl rfl ?_
      refine WL.nil ?_
      exact hpost _ _ hc (bf1n k14) _ (fun _ hd => by obtain rfl := Option.some.inj hd; exact ⟨rfl, trivial⟩)
    · intro Q ρ I1 H hI1 hk hpost
      obtain ⟨_, -⟩ := hk
      have hc := Mem.le.refl I1
      refine WL.no rfl rfl rfl rfl ?_
      refine WL.nil ?_
      exact hpost _ _ hc rfl _ (fun _ hd => by obtain rfl := Option.some.inj hd; exact ⟨rfl, trivial⟩)
    · intro Q ρ I1 H hI1 hk hpost
      obtain ⟨_, -⟩ := hk
      have hc := Mem.le.refl I1
      refine WL.no rfl rfl rfl rfl ?_
      refine WL.nil ?_
      exact hpost _ _ hc rfl _ (fun _ hd => by obtain rfl := Option.some.inj hd; exact ⟨rfl, trivial⟩)
    · intro Q ρ I1 H hI1 hk hpost
      obtain ⟨_, -⟩ := hk
      have hc := Mem.le.refl I1
      refine WL.no rfl rfl rfl rfl ?_
      refine WL.nil ?_
      exact hpost _ _ hc rfl _ (fun _ hd => by obtain rfl := Option.some.inj hd; exact ⟨rfl, trivial⟩)
    · intro Q ρ I1 H hI1 hk hpost
      obtain ⟨_, -⟩ := hk
      have hc := Mem.le.refl I1
      refine WL.no rfl rfl rfl rfl ?_
      refine WL.nil ?_
      exact hpost _ _ hc rfl _ (fun _ hd => by obtain rfl := Option.some.inj hd; exact ⟨rfl, trivial⟩)
    · intro Q ρ I1 H hI1 hk hpost
      obtain ⟨_, _, -⟩ := hk
      have hc := Mem.le.refl I1
      refine pkT rfl rfl rfl ?_
      refine WL.nil ?_
      exact hpost _ _ hc rfl _ (fun _ hd => by obtain rfl := Option.some.inj hd; exact ⟨rfl, trivial⟩)
    · intro Q ρ I1 H hI1 hk hpost
      obtain ⟨_, -⟩ := hk
      have hc := Mem.le.refl I1
      refine mv rfl rfl ?_
      refine WL.nil ?_
      exact hpost _ _ hc rfl _ (fun _ hd => by obtain rfl := Option.some.inj hd; exact ⟨rfl, trivial⟩)
    · intro Q ρ I1 H hI1 hk hpost
      obtain ⟨_, -⟩ := hk
      have hc := Mem.le.refl I1
      refine WL.no rfl rfl rfl rfl ?_
      refine WL.nil ?_
      exact hpost _ _ hc rfl _ (fun _ hd => by obtain rfl := Option.some.inj hd; exact ⟨rfl, trivial⟩)
    · intro Q ρ I1 H hI1 hk hpost
      obtain ⟨_, -⟩ := hk
      have hc := Mem.le.refl I1
      refine WL.no rfl rfl rfl rfl ?_
      refine WL.nil ?_
      exact hpost _ _ hc rfl _ (fun _ hd => by obtain rfl := Option.some.inj hd; exact ⟨rfl, trivial⟩)
    · intro Q ρ I1 H hI1 hk hpost
      obtain ⟨_, -⟩ := hk
      have hc := Mem.le.refl I1
      refine WL.no rfl rfl rfl rfl ?_
      refine WL.nil ?_
      exact hpost _ _ hc rfl _ (fun _ hd => by obtain rfl := Option.some.inj hd; exact ⟨rfl, trivial⟩)
    · intro Q ρ I1 H hI1 hk hpost
      obtain ⟨_, -⟩ := hk
      have hc := Mem.le.refl I1
      refine WL.no rfl rfl rfl rfl ?_
      refine WL.nil ?_
      exact hpost _ _ hc rfl _ (fun _ hd => by obtain rfl := Option.some.inj hd; exact ⟨rfl, trivial⟩)
    · intro Q ρ I1 H hI1 hk hpost
      obtain ⟨_, -⟩ := hk
      have hc := Mem.le.refl I1
      refine WL.no rfl rfl rfl rfl ?_
      refine WL.nil ?_
      exact hpost _ _ hc rfl _ (fun _ hd => by obtain rfl := Option.some.inj hd; exact ⟨rfl, trivial⟩)
    · intro Q ρ I1 H hI1 hk hpost
      obtain ⟨_, _, -⟩ := hk
      have hc := Mem.le.refl I1
      refine pkT rfl rfl rfl ?_
      refine WL.nil ?_
      exact hpost _ _ hc rfl _ (fun _ hd => by obtain rfl := Option.some.inj hd; exact ⟨rfl, trivial⟩)
    rintro ρ J39 hJ40 -
    refine WX.sub (r := [(24, (.bool true))]) ?_ ⟨rfl, trivial⟩
    refine WX.is (H := bl g1 #[(.int .i64 p0.Kind), (.int .i64 p0.Path), (.int .i64 p0.Number), (.int .i64 p0.Of), (.int .i64 p0.From), (.slice a0_5 p0.Data.length c0_5), (.bool p0.Fin), (.int .i64 p0.Seen), (.int .i64 p0.Limit)] 29 :: G) rfl ?_
    have hI := hI.trans hJ40
    replace hp0_5 := hp0_5.up hJ40
    refine WX.then_ ?_
    refine WC.cond rfl (fun _ => ?_) (fun k => by cases k)
    refine WC.seq ?_
    refine WC.region ?_
    refine asg rfl rfl ?_
    refine WL.del 0 ?_
    refine WL.next ?_
    refine WC.ret ?_
    refine WX.then_ret ?_
    cases h
    exact ret1 Try.results33 rfl hI ⟨rfl, rfl⟩
  refine WC.drawn mo (nthL [[], [0], [0, 1], [0, 1, 2], [0, 1, 2, 3], [0, 1, 2, 3, 4], [0, 1, 2, 3, 4, 5], [0, 1, 2, 3, 4, 5, 6], [0, 1, 2, 3, 4, 5, 6, 7], [0, 1, 2, 3, 4, 5, 6, 7, 8], [0, 1, 2, 3, 4, 5, 6, 7, 8, 9], [0, 1, 2, 3, 4, 5, 6, 7, 8, 9, 10], [0, 1, 2, 3, 4, 5, 6, 7, 8, 9, 10, 11], [0, 1, 2, 3, 4, 5, 6, 7, 8, 9, 10, 11, 12], [0, 1, 2, 3, 4, 5, 6, 7, 8, 9, 10, 11, 12, 13], [0, 1, 2, 3, 4, 5, 6, 7, 8, 9, 10, 11, 12, 13, 14], [0, 1, 2, 3, 4, 5, 6, 7, 8, 9, 10, 11, 12, 13, 14, 15], [0, 1, 2, 3, 4, 5, 6, 7, 8, 9, 10, 11, 12, 13, 14, 15], [0, 1, 2, 3, 4, 5, 6, 7, 8, 9, 10, 11, 12, 13, 14, 15, 17], [0, 1, 2, 3, 4, 5, 6, 7, 8, 9, 10, 11, 12, 13, 14, 15, 16, 17, 18], [0, 1, 2, 3, 4, 5, 6, 7, 8, 9, 10, 11, 12, 13, 14, 15, 16, 17, 18, 19], [0, 1, 2, 3, 4, 5, 6, 7, 8, 9, 10, 11, 12, 13, 14, 15, 16, 17, 18, 19, 20]]) (nthL [[], [0], [1], [2], [3], [3], [3], [3], [3, 7], [8], [9], [9], [9], [9], [9, 13], [14], [15], [15], [15], [15], [15], [15, 20]]) (nthK [.val (.agg #[(.int .i64 p0.Kind), (.int .i64 p0.Path), (.int .i64 p0.Number), (.int .i64 p0.Of), (.int .i64 p0.From), (.slice a0_5 p0.Data.length c0_5), (.bool p0.Fin), (.int .i64 p0.Seen), (.int .i64 p0.Limit)]), .val (.bool x3), .val (.bool (!x3)), .val (.bool true), .val undef, .val undef, .val undef, .val undef, .val (.bool true), .val (.bool true), .val undef, .val undef, .val undef, .val undef, .val (.bool true), .val (.bool true), .val undef, .val undef, .val undef, .val undef, .val undef, .val (.bool true)]) [⟨none, none, [0], [], fun _ => bl g1 #[(.int .i64 p0.Kind), (.int .i64 p0.Path), (.int .i64 p0.Number), (.int .i64 p0.Of), (.int .i64 p0.From), (.slice a0_5 p0.Data.length c0_5), (.bool p0.Fin), (.int .i64 p0.Seen), (.int .i64 p0.Limit)] 29⟩] (by kernel_rfl) (by kernel_rfl) (by kernel_rfl) (H := G) rfl ⟨?_, ?_, ?_, ?_, ?_, ?_, ?_, ?_, ?_, ?_, ?_, ?_, ?_, ?_, ?_, ?_, ?_, ?_, ?_, ?_, ?_, ?_, trivial⟩ ?_
  · intro Q ρ I1 H hI1 hk hpost
    have hc := Mem.le.refl I1
    refine lda 0 ya29 rfl rfl rfl rfl rfl ?_
    refine WL.nil ?_
    exact hpost _ _ hc rfl _ (fun _ hd => by obtain rfl := Option.some.inj hd; exact ⟨rfl, trivial⟩)
  · intro Q ρ I1 H hI1 hk hpost
    obtain ⟨_, -⟩ := hk
    replace hp0_5 := hp0_5.up hI1
    have hc := Mem.le.refl I1
    refine call cl41 rfl rfl (W41 e4 hp0_5) (fun _ J5 _ hJ6 q7 => ?_)
    have hc := hc.trans hJ6
    replace hp0_5 := hp0_5.up hJ6
    obtain ⟨rfl, rfl⟩ := q7
    refine WL.nil ?_
    exact hpost _ _ hc rfl _ (fun _ hd => by obtain rfl := Option.some.inj hd; exact ⟨rfl, trivial⟩)
  · intro Q ρ I1 H hI1 hk hpost
    obtain ⟨_, -⟩ := hk
    have hc := Mem.le.refl I1
    refine nt rfl rfl ?_
    refine WL.nil ?_
    exact hpost _ _ hc rfl _ (fun _ hd => by obtain rfl := Option.some.inj hd; exact ⟨rfl, trivial⟩)
  · intro Q ρ I1 H hI1 hk hpost
    obtain ⟨_, -⟩ := hk
    have hc := Mem.le.refl I1
    refine mv rfl rfl ?_
    refine WL.nil ?_
    exact hpost _ _ hc (bf1n k8) _ (fun _ hd => by obtain rfl := Option.some.inj hd; exact ⟨rfl, trivial⟩)
  · intro Q ρ I1 H hI1 hk hpost
    obtain ⟨_, -⟩ := hk
    have hc := Mem.le.refl I1
    refine WL.no rfl rfl rfl rfl ?_
    refine WL.nil ?_
    exact hpost _ _ hc rfl _ (fun _ hd => by obtain rfl := Option.some.inj hd; exact ⟨rfl, trivial⟩)
  · intro Q ρ I1 H hI1 hk hpost
    obtain ⟨_, -⟩ := hk
    have hc := Mem.le.refl I1
    refine WL.no rfl rfl rfl rfl ?_
    refine WL.nil ?_
    exact hpost _ _ hc rfl _ (fun _ hd => by obtain rfl := Option.some.inj hd; exact ⟨rfl, trivial⟩)
  · intro Q ρ I1 H hI1 hk hpost
    obtain ⟨_, -⟩ := hk
    have hc := Mem.le.refl I1
    refine WL.no rfl rfl rfl rfl ?_
    refine WL.nil ?_
    exact hpost _ _ hc rfl _ (fun _ hd => by obtain rfl := Option.some.inj hd; exact ⟨rfl, trivial⟩)
  · intro Q ρ I1 H hI1 hk hpost
    obtain ⟨_, -⟩ := hk
    have hc := Mem.le.refl I1
    refine WL.no rfl rfl rfl rfl ?_
    refine WL.nil ?_
    exact hpost _ _ hc rfl _ (fun _ hd => by obtain rfl := Option.some.inj hd; exact ⟨rfl, trivial⟩)
  · intro Q ρ I1 H hI1 hk hpost
    obtain ⟨_, _, -⟩ := hk
    have hc := Mem.le.refl I1
    refine pkT rfl rfl rfl ?_
    refine WL.nil ?_
    exact hpost _ _ hc rfl _ (fun _ hd => by obtain rfl := Option.some.inj hd; exact ⟨rfl, trivial⟩)
  · intro Q ρ I1 H hI1 hk hpost
    obtain ⟨_, -⟩ := hk
    have hc := Mem.le.refl I1
    refine mv rfl rfl ?_
    refine WL.nil ?_
    exact hpost _ _ hc rfl _ (fun _ hd => by obtain rfl := Option.some.inj hd; exact ⟨rfl, trivial⟩)
  · intro Q ρ I1 H hI1 hk hpost
    obtain ⟨_, -⟩ := hk
    have hc := Mem.le.refl I1
    refine WL.no rfl rfl rfl rfl ?_
    refine WL.nil ?_
    exact hpost _ _ hc rfl _ (fun _ hd => by obtain rfl := Option.some.inj hd; exact ⟨rfl, trivial⟩)
  · intro Q ρ I1 H hI1 hk hpost
    obtain ⟨_, -⟩ := hk
    have hc := Mem.le.refl I1
    refine WL.no rfl rfl rfl rfl ?_
    refine WL.nil ?_
    exact hpost _ _ hc rfl _ (fun _ hd => by obtain rfl := Option.some.inj hd; exact ⟨rfl, trivial⟩)
  · intro Q ρ I1 H hI1 hk hpost
    obtain ⟨_, -⟩ := hk
    have hc := Mem.le.refl I1
    refine WL.no rfl rfl rfl rfl ?_
    refine WL.nil ?_
    exact hpost _ _ hc rfl _ (fun _ hd => by obtain rfl := Option.some.inj hd; exact ⟨rfl, trivial⟩)
  · intro Q ρ I1 H hI1 hk hpost
    obtain ⟨_, -⟩ := hk
    have hc := Mem.le.refl I1
    refine WL.no rfl rfl rfl rfl ?_
    refine WL.nil ?_
    exact hpost _ _ hc rfl _ (fun _ hd => by obtain rfl := Option.some.inj hd; exact ⟨rfl, trivial⟩)
  · intro Q ρ I1 H hI1 hk hpost
    obtain ⟨_, _, -⟩ := hk
    have hc := Mem.le.refl I1
    refine pkT rfl rfl rfl ?_
    refine WL.nil ?_
    exact hpost _ _ hc rfl _ (fun _ hd => by obtain rfl := Option.some.inj hd; exact ⟨rfl, trivial⟩)
  · intro Q ρ I1 H hI1 hk hpost
    obtain ⟨_, -⟩ := hk
    have hc := Mem.le.refl I1
    refine mv rfl rfl ?_
    refine WL.nil ?_
    exact hpost _ _ hc rfl _ (fun _ hd => by obtain rfl := Option.some.inj hd; exact ⟨rfl, trivial⟩)
  · intro Q ρ I1 H hI1 hk hpost
    obtain ⟨_, -⟩ := hk
    have hc := Mem.le.refl I1
    refine WL.no rfl rfl rfl rfl ?_
    refine WL.nil ?_
    exact hpost _ _ hc rfl _ (fun _ hd => by obtain rfl := Option.some.inj hd; exact ⟨rfl, trivial⟩)
  · intro Q ρ I1 H hI1 hk hpost
    obtain ⟨_, -⟩ := hk
    have hc := Mem.le.refl I1
    refine WL.no rfl rfl rfl rfl ?_
    refine WL.nil ?_
    exact hpost _ _ hc rfl _ (fun _ hd => by obtain rfl := Option.some.inj hd; exact ⟨rfl, trivial⟩)
  · intro Q ρ I1 H hI1 hk hpost
    obtain ⟨_, -⟩ := hk
    have hc := Mem.le.refl I1
    refine WL.no rfl rfl rfl rfl ?_
    refine WL.nil ?_
    exact hpost _ _ hc rfl _ (fun _ hd => by obtain rfl := Option.some.inj hd; exact ⟨rfl, trivial⟩)
  · intro Q ρ I1 H hI1 hk hpost
    obtain ⟨_, -⟩ := hk
    have hc := Mem.le.refl I1
    refine WL.no rfl rfl rfl rfl ?_
    refine WL.nil ?_
    exact hpost _ _ hc rfl _ (fun _ hd => by obtain rfl := Option.some.inj hd; exact ⟨rfl, trivial⟩)
  · intro Q ρ I1 H hI1 hk hpost
    obtain ⟨_, -⟩ := hk
    have hc := Mem.le.refl I1
    refine WL.no rfl rfl rfl rfl ?_
    refine WL.nil ?_
    exact hpost _ _ hc rfl _ (fun _ hd => by obtain rfl := Option.some.inj hd; exact ⟨rfl, trivial⟩)
  · intro Q ρ I1 H hI1 hk hpost
    obtain ⟨_, _, -⟩ := hk
    have hc := Mem.le.refl I1
    refine pkT rfl rfl rfl ?_
    refine WL.nil ?_
    exact hpost _ _ hc rfl _ (fun _ hd => by obtain rfl := Option.some.inj hd; exact ⟨rfl, trivial⟩)
  rintro ρ J41 hJ42 -
  refine WX.sub (r := [(24, (.bool true))]) ?_ ⟨rfl, trivial⟩
  refine WX.is (H := bl g1 #[(.int .i64 p0.Kind), (.int .i64 p0.Path), (.int .i64 p0.Number), (.int .i64 p0.Of), (.int .i64 p0.From), (.slice a0_5 p0.Data.length c0_5), (.bool p0.Fin), (.int .i64 p0.Seen), (.int .i64 p0.Limit)] 29 :: G) rfl ?_
  have hI := hI.trans hJ42
  replace hp0_5 := hp0_5.up hJ42
  refine WX.then_ ?_
  refine WC.cond rfl (fun _ => ?_) (fun k => by cases k)
  refine WC.seq ?_
  refine WC.region ?_
  refine asg rfl rfl ?_
  refine WL.del 0 ?_
  refine WL.next ?_
  refine WC.ret ?_
  refine WX.then_ret ?_
  cases h
  exact ret1 Try.results33 rfl hI ⟨rfl, rfl⟩
theorem W46 {I : Mem} {G : List Asn} {p0 : Int} {r : Int} (h : vint_Size p0 = some r) :
    CallsS Try.prog 46 #[.int .i64 p0] I (G) (fun v J G' => v = .int .i64 r ∧ G = G') := by
  refine CallsS.enter Try.func46 rfl Try.ntmps46 rfl (fun w0 => ?_)
  have hI := Mem.le.refl I
  unfold vint_Size at h
  refine WC.seq ?_
  refine WC.region ?_
  refine asg rfl rfl ?_
  refine WL.next ?_
  refine WC.seq ?_
  refine WC.block ?_
  refine WC.seq ?_
  refine WC.region ?_
  refine mv rfl rfl ?_
  refine lt rfl rfl rfl ?_
  refine mv rfl rfl ?_
  rcases spl h with ⟨k1, h⟩ | ⟨k1, h⟩
  · skip
    refine WL.rb 6 rfl (bT k1) ?_
    refine WL.no rfl rfl rfl rfl ?_
    refine WL.no rfl rfl rfl rfl ?_
    refine pkT rfl rfl rfl ?_
    refine asg rfl rfl ?_
    refine WL.next ?_
    refine WC.cond rfl (fun _ => ?_) (fun k => by cases k)
    refine WC.seq ?_
    refine WC.region ?_
    refine asg rfl rfl ?_
    refine WL.next ?_
    refine WC.ret ?_
    refine WX.block_ret ?_
    refine WX.then_ret ?_
    cases h
    exact ret1 Try.results46 rfl hI ⟨rfl, rfl⟩
  refine WL.rb 6 rfl (bF k1) ?_
  refine WL.on rfl rfl ?_
  refine mv rfl rfl ?_
  refine WL.on rfl rfl ?_
  refine gt rfl rfl rfl ?_
  refine pkF rfl rfl rfl ?_
  refine asg rfl rfl ?_
  refine WL.next ?_
  refine WC.ite rfl h (fun k2 h => ?_) (fun k2 h => ?_)
  · skip
    refine WC.seq ?_
    refine WC.region ?_
    refine asg rfl rfl ?_
    refine WL.next ?_
    refine WC.ret ?_
    refine WX.block_ret ?_
    refine WX.then_ret ?_
    cases h
    exact ret1 Try.results46 rfl hI ⟨rfl, rfl⟩
  refine WC.seq ?_
  refine WC.region ?_
  refine mv rfl rfl ?_
  refine lt rfl rfl rfl ?_
  refine asg rfl rfl ?_
  refine WL.next ?_
  refine WC.ite rfl h (fun k3 h => ?_) (fun k3 h => ?_)
  · skip
    refine WC.seq ?_
    refine WC.region ?_
    refine asg rfl rfl ?_
    refine WL.next ?_
    refine WC.ret ?_
    refine WX.block_ret ?_
    refine WX.then_ret ?_
    cases h
    exact ret1 Try.results46 rfl hI ⟨rfl, rfl⟩
  refine WC.seq ?_
  refine WC.region ?_
  refine mv rfl rfl ?_
  refine lt rfl rfl rfl ?_
  refine asg rfl rfl ?_
  refine WL.next ?_
  refine WC.ite rfl h (fun k4 h => ?_) (fun k4 h => ?_)
  · skip
    refine WC.seq ?_
    refine WC.region ?_
    refine asg rfl rfl ?_
    refine WL.next ?_
    refine WC.ret ?_
    refine WX.block_ret ?_
    refine WX.then_ret ?_
    cases h
    exact ret1 Try.results46 rfl hI ⟨rfl, rfl⟩
  refine WC.seq ?_
  refine WC.region ?_
  refine mv rfl rfl ?_
  refine lt rfl rfl rfl ?_
  refine asg rfl rfl ?_
  refine WL.next ?_
  refine WC.ite rfl h (fun k5 h => ?_) (fun k5 h => ?_)
  · skip
    refine WC.seq ?_
    refine WC.region ?_
    refine asg rfl rfl ?_
    refine WL.next ?_
    refine WC.ret ?_
    refine WX.block_ret ?_
    refine WX.then_ret ?_
    cases h
    exact ret1 Try.results46 rfl hI ⟨rfl, rfl⟩
  refine WC.skip ?_
  refine WX.block_normal ?_
  refine WX.then_ ?_
  refine WC.seq ?_
  refine WC.region ?_
  refine asg rfl rfl ?_
  refine WL.next ?_
  refine WC.ret ?_
  cases h
  exact ret1 Try.results46 rfl hI ⟨rfl, rfl⟩
theorem W47 {I : Mem} {G : List Asn} {p0 : Int} {r : UInt8} (h : vint_mark p0 = some r) :
    CallsS Try.prog 47 #[.int .i64 p0] I (G) (fun v J G' => v = .int .u8 (r.toNat : Int) ∧ G = G') := by
  refine CallsS.enter Try.func47 rfl Try.ntmps47 rfl (fun w0 => ?_)
  have hI := Mem.le.refl I
  unfold vint_mark at h
  refine WC.seq ?_
  refine WC.region ?_
  refine asg rfl rfl ?_
  refine WL.next ?_
  refine WC.seq ?_
  refine WC.seq ?_
  refine WC.region ?_
  refine mv rfl rfl ?_
  refine WL.next ?_
  refine WC.block ?_
  refine WC.seq ?_
  refine WC.region ?_
  refine eq rfl rfl rfl ?_
  refine asg rfl rfl ?_
  refine WL.next ?_
  refine WC.ite rfl h (fun k1 h => ?_) (fun k1 h => ?_)
  · skip
    refine WC.seq ?_
    refine WC.region ?_
    refine asg rfl rfl ?_
    refine WL.next ?_
    refine WC.ret ?_
    refine WX.block_ret ?_
    refine WX.then_ret ?_
    cases h
    exact ret1 Try.results47 rfl hI ⟨rfl, rfl⟩
  refine WC.seq ?_
  refine WC.region ?_
  refine eq rfl rfl rfl ?_
  refine asg rfl rfl ?_
  refine WL.next ?_
  refine WC.ite rfl h (fun k2 h => ?_) (fun k2 h => ?_)
  · skip
    refine WC.seq ?_
    refine WC.region ?_
    refine asg rfl rfl ?_
    refine WL.next ?_
    refine WC.ret ?_
    refine WX.block_ret ?_
    refine WX.then_ret ?_
    cases h
    exact ret1 Try.results47 rfl hI ⟨rfl, rfl⟩
  refine WC.seq ?_
  refine WC.region ?_
  refine eq rfl rfl rfl ?_
  refine asg rfl rfl ?_
  refine WL.next ?_
  refine WC.ite rfl h (fun k3 h => ?_) (fun k3 h => ?_)
  · skip
    refine WC.seq ?_
    refine WC.region ?_
    refine asg rfl rfl ?_
    refine WL.next ?_
    refine WC.ret ?_
    refine WX.block_ret ?_
    refine WX.then_ret ?_
    cases h
    exact ret1 Try.results47 rfl hI ⟨rfl, rfl⟩
  refine WC.skip ?_
  refine WX.block_normal ?_
  refine WX.then_ ?_
  refine WC.seq ?_
  refine WC.region ?_
  refine asg rfl rfl ?_
  refine WL.next ?_
  refine WC.ret ?_
  cases h
  exact ret1 Try.results47 rfl hI ⟨rfl, rfl⟩
end Go.Proofs.Ytcfapdamgbbklaa
