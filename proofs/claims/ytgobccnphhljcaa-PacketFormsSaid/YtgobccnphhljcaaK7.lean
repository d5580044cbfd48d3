/- Printed by a program of this session: walks of Go functions. -/
import Derived.Test.YtgobccnphhljcaaKf
import Derived.Test.YtgobccnphhljcaaDf
import Derived.Test.YtgobccnphhljcaaK0
import Derived.Test.YtgobccnphhljcaaK5
import Derived.Test.YtgobccnphhljcaaK6
namespace Go.Proofs.Ytgobccnphhljcaa
set_option linter.unusedVariables false
set_option maxRecDepth 10000
set_option maxHeartbeats 2000000
theorem W10 {I : Mem} {G : List Asn} {p0 : Int} {p1 : List (List UInt8)} {p2 : Int} {p3 : Int} {r : Bool} (h : haulierlaw09_SegmentBack p0 p1 p2 p3 = some r) {u1 : Value} (hp1 : IV I u1 p1) :
    CallsS Try.prog 10 #[.int .i64 p0, u1, .int .i64 p2, .int .i64 p3] I (G) (fun v J G' => v = .bool r ∧ G = G') := by
  refine CallsS.enter Try.func10 rfl Try.ntmps10 rfl (fun w0 => ?_)
  have hI := Mem.le.refl I
  obtain ⟨a1, c1, rfl⟩ := hp1.hd
  unfold haulierlaw09_SegmentBack at h
  refine WC.seq ?_
  refine WC.region ?_
  refine asg rfl rfl ?_
  refine WL.next ?_
  refine WC.seq ?_
  refine WC.region ?_
  refine mv rfl rfl ?_
  obtain ⟨x1, e2, h⟩ := bnd h
  refine call cl19 rfl rfl (W19 e2) (fun _ J3 _ hJ4 q5 => ?_)
  have hI := hI.trans hJ4
  replace hp1 := hp1.up hJ4
  obtain ⟨rfl, rfl⟩ := q5
  refine ad rfl rfl rfl ?_
  refine asg rfl rfl ?_
  refine WL.next ?_
  refine WC.seq ?_
  refine WC.region ?_
  refine mv rfl rfl ?_
  obtain ⟨x6, e7, h⟩ := bnd h
  refine call cl39 rfl rfl (W39 e7) (fun _ J8 _ hJ9 q10 => ?_)
  have hI := hI.trans hJ9
  replace hp1 := hp1.up hJ9
  obtain ⟨a11, c12, rfl, rfl⟩ := q10
  refine asg rfl rfl ?_
  refine WL.next ?_
  refine WC.seq ?_
  refine WC.region ?_
  refine mv rfl rfl ?_
  refine ln et22 rfl (OV.rd 0 rfl) rfl ?_
  refine bs (os := [.tmp 34]) (xs := ([(x6.length : Int)] : List Int)) et59 rfl rfl ⟨(Rv.of_int _ (x6.length : Int)), trivial⟩ rfl rfl rfl rfl (fun a14 c15 => ?_)
  refine asg rfl rfl ?_
  refine WL.next ?_
  refine WC.seq ?_
  refine WC.region ?_
  refine asg rfl rfl ?_
  refine WL.next ?_
  refine WC.seq ?_
  refine WC.seq ?_
  refine WC.region ?_
  refine asg rfl rfl ?_
  refine WL.next ?_
  obtain ⟨j146, hj146, h⟩ := bnd h
  refine WC.joinQ (σ := (List Int) × (List UInt8) × (List (List UInt8)) × (Option Addr) × Nat × (Option Addr) × Nat × (Option Addr) × Nat) (fun (x135, x138, x141, a136, c137, a139, c140, a142, c143) => [(0, (.int .i64 (w64 (1 + x1)))), (2, (.int .i64 p2)), (3, (.int .i64 p3)), (9, (.slice a139 x138.length c140)), (10, (.slice a136 x135.length c137)), (11, (.slice a142 x141.length c143))]) (fun (x135, x138, x141, a136, c137, a139, c140, a142, c143) => OV 3 (.slice a136 x135.length c137) x135 :: OV 5 (.slice a139 x138.length c140) x138 :: OV 22 (.slice a142 x141.length c143) x141 :: G) (fun (x135, x138, x141, a136, c137, a139, c140, a142, c143) J => (x135, x138, x141) = j146) (fun kj146 => ?_) ?_
  · skip
    have lj146 := Mem.le.refl J8
    refine WC.block ?_
    refine WC.own_nil (List UInt8) 22 ?_
    refine WC.front 2 ?_
    refine WC.front 2 ?_
    refine WC.front 2 ?_
    refine WC.loop (σ := (List (List UInt8)) × (List Int) × (List UInt8) × Int × (Option Addr) × Nat × (Option Addr) × Nat × (Option Addr) × Nat) (fun k (x148, x151, x154, x157, a149, c150, a152, c153, a155, c156) => haulierlaw09_SegmentBack_l0 p1 k x148 x151 x154 x157) _ (fun (x148, x151, x154, x157, a149, c150, a152, c153, a155, c156) => [(0, (.int .i64 (w64 (1 + x1)))), (1, (.slice a1 p1.length c1)), (2, (.int .i64 p2)), (3, (.int .i64 p3)), (9, (.slice a155 x154.length c156)), (10, (.slice a152 x151.length c153)), (11, (.slice a149 x148.length c150)), (12, (.int .i64 x157))]) (fun (x148, x151, x154, x157, a149, c150, a152, c153, a155, c156) => OV 22 (.slice a149 x148.length c150) x148 :: OV 3 (.slice a152 x151.length c153) x151 :: OV 5 (.slice a155 x154.length c156) x154 :: G) (fun (x148, x151, x154, x157, a149, c150, a152, c153, a155, c156) J => True) (fun ⟨x148, x151, x154, x157, a149, c150, a152, c153, a155, c156⟩ => rfl) bigN ⟨([] : List (List UInt8)), ([(x6.length : Int)] : List Int), x6, 0, _, _, _, _, _, _⟩ hj146 trivial ⟨rfl, rfl, rfl, rfl, rfl, rfl, rfl, rfl, trivial⟩ rfl ?_
    rintro k0 ih0 ⟨x148, x151, x154, x157, a149, c150, a152, c153, a155, c156⟩ J211 hJ212 - hj146
    change haulierlaw09_SegmentBack_l0 p1 (k0 + 1) x148 x151 x154 x157 = _ at hj146
    rw [haulierlaw09_SegmentBack_l0] at hj146
    have hI := hI.trans hJ212
    have lj146 := lj146.trans hJ212
    replace hp1 := hp1.up hJ212
    have ll0 := hJ212
    refine WC.seq ?_
    refine WC.seq ?_
    obtain ⟨j216, hj216, hj146⟩ := bnd hj146
    refine WC.joinQ (σ := Bool) (fun x215 => [(0, (.int .i64 (w64 (1 + x1)))), (1, (.slice a1 p1.length c1)), (2, (.int .i64 p2)), (3, (.int .i64 p3)), (9, (.slice a155 x154.length c156)), (10, (.slice a152 x151.length c153)), (11, (.slice a149 x148.length c150)), (12, (.int .i64 x157)), (43, (.bool x215))]) (fun x215 => OV 22 (.slice a149 x148.length c150) x148 :: OV 3 (.slice a152 x151.length c153) x151 :: OV 5 (.slice a155 x154.length c156) x154 :: G) (fun x215 J => x215 = j216) (fun kj216 => ?_) ?_
    · skip
      have lj216 := Mem.le.refl J211
      refine WC.region ?_
      refine mv rfl rfl ?_
      refine mv rfl rfl ?_
      refine ln et37 rfl (hp1.rd) rfl ?_
      refine lt rfl rfl rfl ?_
      refine mv rfl rfl ?_
      rcases spl hj216 with ⟨k217, hj216⟩ | ⟨k217, hj216⟩
      · skip
        refine WL.rb 40 rfl (bT k217) ?_
        refine WL.on rfl rfl ?_
        refine mv rfl rfl ?_
        refine WL.on rfl rfl ?_
        refine lt rfl rfl rfl ?_
        refine pkT rfl rfl rfl ?_
        refine WL.nil ?_
        refine WX.front 2 ?_
        refine WX.front 2 ?_
        refine WX.front 2 ?_
        exact (kj216 (decide (x157 < 6)) _ lj216 (Option.some.inj hj216)).sub ⟨rfl, rfl, rfl, rfl, rfl, rfl, rfl, rfl, rfl, trivial⟩
      refine WL.rb 40 rfl (bF k217) ?_
      refine WL.no rfl rfl rfl rfl ?_
      refine WL.no rfl rfl rfl rfl ?_
      refine pkF rfl rfl rfl ?_
      refine WL.nil ?_
      refine WX.front 2 ?_
      refine WX.front 2 ?_
      refine WX.front 2 ?_
      exact (kj216 false _ lj216 (Option.some.inj hj216)).sub ⟨rfl, rfl, rfl, rfl, rfl, rfl, rfl, rfl, rfl, trivial⟩
    rintro x215 J218 hJ219 rfl
    have hI := hI.trans hJ219
    have lj146 := lj146.trans hJ219
    have ll0 := ll0.trans hJ219
    replace hp1 := hp1.up hJ219
    refine WX.then_ ?_
    refine WC.iteb rfl hj146 (fun k220 hj146 => ?_) (fun k220 hj146 => ?_)
    · skip
      refine WC.skip ?_
      refine WX.then_ ?_
      refine WC.seq ?_
      refine WC.block ?_
      refine WC.seq ?_
      refine WC.region ?_
      refine mv rfl rfl ?_
      refine mv rfl rfl ?_
      obtain ⟨z221, e222, hj146⟩ := bnd hj146
      refine ixi et37 rfl rfl hp1 e222 rfl (fun uv223 h224 => ?_)
      refine ldi (α := List UInt8) na22 rfl h224 rfl (fun uv225 h226 => ?_)
      replace h226 := h226.sl; obtain ⟨a227, c228, rfl⟩ := h226.hd
      obtain ⟨x229, e230, hj146⟩ := bnd hj146
      refine call cl15 rfl rfl (W15 e230 h226) (fun _ J231 _ hJ232 q233 => ?_)
      have hI := hI.trans hJ232
      have lj146 := lj146.trans hJ232
      have ll0 := ll0.trans hJ232
      replace hp1 := hp1.up hJ232; replace h224 := h224.up hJ232; replace h226 := h226.up hJ232
      obtain ⟨a234, c235, rfl, rfl⟩ := q233
      refine asg rfl rfl ?_
      refine WL.next ?_
      refine WC.seq ?_
      refine WC.region ?_
      refine mv rfl rfl ?_
      refine mv rfl rfl ?_
      refine WL.freeze (fun J237 hJ238 h239 => ?_)
      have hI := hI.trans hJ238
      have lj146 := lj146.trans hJ238
      have ll0 := ll0.trans hJ238
      replace hp1 := hp1.up hJ238
      obtain ⟨x240, e241, hj146⟩ := bnd hj146
      refine call cl41 rfl rfl (W41 e241 h239) (fun _ J242 _ hJ243 q244 => ?_)
      have hI := hI.trans hJ243
      have lj146 := lj146.trans hJ243
      have ll0 := ll0.trans hJ243
      replace hp1 := hp1.up hJ243; replace h239 := h239.up hJ243
      obtain ⟨a245, c246, rfl, rfl⟩ := q244
      refine WL.front 3 ?_
      obtain ⟨k248, hj146⟩ := chk hj146
      refine ap et22 rfl rfl ((OV.rd 1 rfl)) k248 rfl (fun a249 c250 => ?_)
      refine asg rfl rfl ?_
      refine WL.del 1 ?_
      refine WL.next ?_
      refine WC.region ?_
      refine mv rfl rfl ?_
      refine mv rfl rfl ?_
      refine ln et22 rfl (OV.rd 0 rfl) rfl ?_
      refine bs (os := [.tmp 57]) (xs := ([((x154 ++ x240).length : Int)] : List Int)) et59 rfl rfl ⟨(Rv.of_int _ ((x154 ++ x240).length : Int)), trivial⟩ rfl rfl rfl rfl (fun a251 c252 => ?_)
      refine WL.front 3 ?_
      obtain ⟨k254, hj146⟩ := chk hj146
      obtain ⟨x257, e258, hj146⟩ := bnd hj146
      refine ap et59 rfl rfl ((OV.rd 1 rfl)) k254 rfl (fun a255 c256 => ?_)
      refine WL.ren (Option.some.inj e258) ?_
      refine mv rfl rfl ?_
      refine mv rfl rfl ?_
      refine bs (os := [.tmp 61]) (xs := ([x229] : List (List UInt8))) et37 rfl rfl ⟨(h239).rv, trivial⟩ rfl rfl rfl rfl (fun a259 c260 => ?_)
      refine WL.front 4 ?_
      obtain ⟨k262, hj146⟩ := chk hj146
      refine ap et37 rfl rfl ((OV.rd 1 rfl)) k262 rfl (fun a263 c264 => ?_)
      refine asg rfl rfl ?_
      refine asg rfl rfl ?_
      refine WL.del 1 ?_
      refine WL.del 2 ?_
      refine WL.nil ?_
      refine WX.block_normal ?_
      refine WX.then_ ?_
      refine WC.region ?_
      refine mv rfl rfl ?_
      refine ad rfl rfl rfl ?_
      refine asg rfl rfl ?_
      refine WL.nil ?_
      refine WX.front 2 ?_
      refine WX.front 2 ?_
      refine WX.front 2 ?_
      refine WX.round ?_
      exact (ih0 ⟨(x148 ++ ([x229] : List (List UInt8))), x257, (x154 ++ x240), w64 (x157 + 1), _, _, _, _, _, _⟩ _ ll0 trivial hj146).sub ⟨rfl, rfl, rfl, rfl, rfl, rfl, rfl, rfl, trivial⟩
    refine WC.exit ?_
    refine WX.then_exit ?_
    refine WX.then_exit ?_
    refine WX.block_here ?_
    refine WX.front 2 ?_
    refine WX.front 2 ?_
    exact (kj146 ⟨x151, x154, x148, _, _, _, _, _, _⟩ _ lj146 (Option.some.inj hj146)).sub ⟨rfl, rfl, rfl, rfl, rfl, rfl, trivial⟩
  rintro ⟨x135, x138, x141, a136, c137, a139, c140, a142, c143⟩ J265 hJ266 rfl
  have hI := hI.trans hJ266
  refine WX.then_ ?_
  refine WC.seq ?_
  refine WC.region ?_
  refine mv rfl rfl ?_
  refine WL.front 1 ?_
  refine WL.freeze (fun J267 hJ268 h269 => ?_)
  have hI := hI.trans hJ268
  obtain ⟨x270, e271, h⟩ := bnd h
  refine call cl44 rfl rfl (W44 e271 h269) (fun _ J272 _ hJ273 q274 => ?_)
  have hI := hI.trans hJ273
  replace h269 := h269.up hJ273
  obtain ⟨a275, c276, rfl, h277, rfl⟩ := q274
  refine al Try.zeroValue56 rfl (fun g278 => ?_)
  refine sta (C' := #[(.int .i64 x270.Number), (.slice a275 x270.Records.length c276), (.int .i64 x270.Whole), (.bool x270.Sealed)]) sz56 rfl rfl rfl rfl rfl rfl ?_
  refine WL.next ?_
  refine WC.seq ?_
  refine WC.region ?_
  refine mv rfl rfl ?_
  obtain ⟨x280, e281, h⟩ := bnd h
  refine call cl43 rfl rfl (W43 e281 h269) (fun _ J282 _ hJ283 q284 => ?_)
  have hI := hI.trans hJ283
  replace h269 := h269.up hJ283; replace h277 := h277.up hJ283
  obtain ⟨a285, c286, rfl, rfl⟩ := q284
  refine mv rfl rfl ?_
  refine mv rfl rfl ?_
  refine ln et37 rfl (OV.rd 3 rfl) rfl ?_
  obtain ⟨x288, e289, h⟩ := bnd h
  refine call cl40 rfl rfl (W40 e289) (fun _ J290 _ hJ291 q292 => ?_)
  have hI := hI.trans hJ291
  replace h269 := h269.up hJ291; replace h277 := h277.up hJ291
  obtain ⟨a293, c294, rfl, rfl⟩ := q292
  refine WL.front 1 ?_
  obtain ⟨k296, h⟩ := chk h
  refine ap et22 rfl rfl ((OV.rd 1 rfl)) k296 rfl (fun a297 c298 => ?_)
  refine asg rfl rfl ?_
  refine WL.del 1 ?_
  refine WL.next ?_
  refine WC.seq ?_
  refine WC.region ?_
  refine mv rfl rfl ?_
  refine WL.freeze (fun J299 hJ300 h301 => ?_)
  have hI := hI.trans hJ300
  replace h269 := h269.up hJ300; replace h277 := h277.up hJ300
  obtain ⟨x302, e303, h⟩ := bnd h
  refine call cl44 rfl rfl (W44 e303 h301) (fun _ J304 _ hJ305 q306 => ?_)
  have hI := hI.trans hJ305
  replace h269 := h269.up hJ305; replace h301 := h301.up hJ305; replace h277 := h277.up hJ305
  obtain ⟨a307, c308, rfl, h309, rfl⟩ := q306
  refine al Try.zeroValue56 rfl (fun g310 => ?_)
  refine sta (C' := #[(.int .i64 x302.Number), (.slice a307 x302.Records.length c308), (.int .i64 x302.Whole), (.bool x302.Sealed)]) sz56 rfl rfl rfl rfl rfl rfl ?_
  refine WL.next ?_
  refine WC.seq ?_
  refine WC.seq ?_
  obtain ⟨j327, hj327, h⟩ := bnd h
  refine WC.joinQ (σ := Bool) (fun x326 => [(0, (.int .i64 (w64 (1 + x1)))), (2, (.int .i64 p2)), (3, (.int .i64 p3)), (9, (.slice a139 x138.length c140)), (10, (.slice a136 x135.length c137)), (11, (.slice a142 x141.length c143)), (15, (.slice a297 (x280 ++ x288).length c298)), (16, (.pointer (some ⟨g310, 0, none⟩))), (123, (.bool x326))]) (fun x326 => bl g310 #[(.int .i64 x302.Number), (.slice a307 x302.Records.length c308), (.int .i64 x302.Whole), (.bool x302.Sealed)] 56 :: OV 3 (.slice a136 x135.length c137) x135 :: OV 22 (.slice a142 x141.length c143) x141 :: G) (fun x326 J => x326 = j327) (fun kj327 => ?_) ?_
  · skip
    have lj327 := Mem.le.refl J304
    refine WC.region ?_
    refine fa fl56_0 rfl rfl ?_
    refine ld 1 na3 rfl rfl rfl rfl ?_
    refine mv rfl rfl ?_
    refine ne rfl rfl rfl ?_
    refine mv rfl rfl ?_
    rcases spl hj327 with ⟨k328, hj327⟩ | ⟨k328, hj327⟩
    · skip
      refine WL.rb 79 rfl (bT k328) ?_
      refine WL.no rfl rfl rfl rfl ?_
      refine WL.no rfl rfl rfl rfl ?_
      refine WL.no rfl rfl rfl rfl ?_
      refine WL.no rfl rfl rfl rfl ?_
      refine WL.no rfl rfl rfl rfl ?_
      refine WL.no rfl rfl rfl rfl ?_
      refine pkT rfl rfl rfl ?_
      refine mv rfl rfl ?_
      refine WL.no rfl rfl rfl rfl ?_
      refine WL.no rfl rfl rfl rfl ?_
      refine WL.no rfl rfl rfl rfl ?_
      refine WL.no rfl rfl rfl rfl ?_
      refine WL.no rfl rfl rfl rfl ?_
      refine pkT rfl rfl rfl ?_
      refine mv rfl rfl ?_
      refine WL.no rfl rfl rfl rfl ?_
      refine WL.no rfl rfl rfl rfl ?_
      refine pkT rfl rfl rfl ?_
      refine mv rfl rfl ?_
      refine WL.no rfl rfl rfl rfl ?_
      refine WL.no rfl rfl rfl rfl ?_
      refine WL.no rfl rfl rfl rfl ?_
      refine WL.no rfl rfl rfl rfl ?_
      refine pkT rfl rfl rfl ?_
      refine mv rfl rfl ?_
      refine WL.no rfl rfl rfl rfl ?_
      refine WL.no rfl rfl rfl rfl ?_
      refine WL.no rfl rfl rfl rfl ?_
      refine WL.no rfl rfl rfl rfl ?_
      refine WL.no rfl rfl rfl rfl ?_
      refine WL.no rfl rfl rfl rfl ?_
      refine pkT rfl rfl rfl ?_
      refine mv rfl rfl ?_
      refine WL.no rfl rfl rfl rfl ?_
      refine WL.no rfl rfl rfl rfl ?_
      refine WL.no rfl rfl rfl rfl ?_
      refine WL.no rfl rfl rfl rfl ?_
      refine WL.no rfl rfl rfl rfl ?_
      refine pkT rfl rfl rfl ?_
      refine mv rfl rfl ?_
      refine WL.no rfl rfl rfl rfl ?_
      refine WL.no rfl rfl rfl rfl ?_
      refine WL.no rfl rfl rfl rfl ?_
      refine pkT rfl rfl rfl ?_
      refine WL.del 1 ?_
      refine WL.nil ?_
      refine WX.front 2 ?_
      refine WX.front 2 ?_
      refine WX.front 2 ?_
      exact (kj327 true _ lj327 (Option.some.inj hj327)).sub ⟨rfl, rfl, rfl, rfl, rfl, rfl, rfl, rfl, rfl, trivial⟩
    refine WL.rb 79 rfl (bF k328) ?_
    refine WL.on rfl rfl ?_
    refine fa fl56_1 rfl rfl ?_
    refine WL.on rfl rfl ?_
    refine ld 1 na37 rfl rfl rfl rfl ?_
    refine WL.on rfl rfl ?_
    refine ln et37 rfl (h277.rd) rfl ?_
    refine WL.on rfl rfl ?_
    refine mv rfl rfl ?_
    refine WL.on rfl rfl ?_
    refine ln et37 rfl (OV.rd 3 rfl) rfl ?_
    refine WL.on rfl rfl ?_
    refine ne rfl rfl rfl ?_
    refine pkF rfl rfl rfl ?_
    refine mv rfl rfl ?_
    rcases spl hj327 with ⟨k329, hj327⟩ | ⟨k329, hj327⟩
    · skip
      refine WL.rb 87 rfl (bT k329) ?_
      refine WL.no rfl rfl rfl rfl ?_
      refine WL.no rfl rfl rfl rfl ?_
      refine WL.no rfl rfl rfl rfl ?_
      refine WL.no rfl rfl rfl rfl ?_
      refine WL.no rfl rfl rfl rfl ?_
      refine pkT rfl rfl rfl ?_
      refine mv rfl rfl ?_
      refine WL.no rfl rfl rfl rfl ?_
      refine WL.no rfl rfl rfl rfl ?_
      refine pkT rfl rfl rfl ?_
      refine mv rfl rfl ?_
      refine WL.no rfl rfl rfl rfl ?_
      refine WL.no rfl rfl rfl rfl ?_
      refine WL.no rfl rfl rfl rfl ?_
      refine WL.no rfl rfl rfl rfl ?_
      refine pkT rfl rfl rfl ?_
      refine mv rfl rfl ?_
      refine WL.no rfl rfl rfl rfl ?_
      refine WL.no rfl rfl rfl rfl ?_
      refine WL.no rfl rfl rfl rfl ?_
      refine WL.no rfl rfl rfl rfl ?_
      refine WL.no rfl rfl rfl rfl ?_
      refine WL.no rfl rfl rfl rfl ?_
      refine pkT rfl rfl rfl ?_
      refine mv rfl rfl ?_
      refine WL.no rfl rfl rfl rfl ?_
      refine WL.no rfl rfl rfl rfl ?_
      refine WL.no rfl rfl rfl rfl ?_
      refine WL.no rfl rfl rfl rfl ?_
      refine WL.no rfl rfl rfl rfl ?_
      refine pkT rfl rfl rfl ?_
      refine mv rfl rfl ?_
      refine WL.no rfl rfl rfl rfl ?_
      refine WL.no rfl rfl rfl rfl ?_
      refine WL.no rfl rfl rfl rfl ?_
      refine pkT rfl rfl rfl ?_
      refine WL.del 1 ?_
      refine WL.nil ?_
      refine WX.front 2 ?_
      refine WX.front 2 ?_
      refine WX.front 2 ?_
      exact (kj327 true _ lj327 (Option.some.inj hj327)).sub ⟨rfl, rfl, rfl, rfl, rfl, rfl, rfl, rfl, rfl, trivial⟩
    refine WL.rb 87 rfl (bF k329) ?_
    refine WL.on rfl rfl ?_
    refine fa fl56_2 rfl rfl ?_
    refine WL.on rfl rfl ?_
    refine ld 1 na3 rfl rfl rfl rfl ?_
    refine WL.on rfl rfl ?_
    refine mv rfl rfl ?_
    refine WL.on rfl rfl ?_
    refine ln et22 rfl (h269.rd) rfl ?_
    refine WL.on rfl rfl ?_
    refine ne rfl rfl rfl ?_
    refine pkF rfl rfl rfl ?_
    refine mv rfl rfl ?_
    rcases spl hj327 with ⟨k330, hj327⟩ | ⟨k330, hj327⟩
    · skip
      refine WL.rb 94 rfl (bT k330) ?_
      refine WL.no rfl rfl rfl rfl ?_
      refine WL.no rfl rfl rfl rfl ?_
      refine pkT rfl rfl rfl ?_
      refine mv rfl rfl ?_
      refine WL.no rfl rfl rfl rfl ?_
      refine WL.no rfl rfl rfl rfl ?_
      refine WL.no rfl rfl rfl rfl ?_
      refine WL.no rfl rfl rfl rfl ?_
      refine pkT rfl rfl rfl ?_
      refine mv rfl rfl ?_
      refine WL.no rfl rfl rfl rfl ?_
      refine WL.no rfl rfl rfl rfl ?_
      refine WL.no rfl rfl rfl rfl ?_
      refine WL.no rfl rfl rfl rfl ?_
      refine WL.no rfl rfl rfl rfl ?_
      refine WL.no rfl rfl rfl rfl ?_
      refine pkT rfl rfl rfl ?_
      refine mv rfl rfl ?_
      refine WL.no rfl rfl rfl rfl ?_
      refine WL.no rfl rfl rfl rfl ?_
      refine WL.no rfl rfl rfl rfl ?_
      refine WL.no rfl rfl rfl rfl ?_
      refine WL.no rfl rfl rfl rfl ?_
      refine pkT rfl rfl rfl ?_
      refine mv rfl rfl ?_
      refine WL.no rfl rfl rfl rfl ?_
      refine WL.no rfl rfl rfl rfl ?_
      refine WL.no rfl rfl rfl rfl ?_
      refine pkT rfl rfl rfl ?_
      refine WL.del 1 ?_
      refine WL.nil ?_
      refine WX.front 2 ?_
      refine WX.front 2 ?_
      refine WX.front 2 ?_
      exact (kj327 true _ lj327 (Option.some.inj hj327)).sub ⟨rfl, rfl, rfl, rfl, rfl, rfl, rfl, rfl, rfl, trivial⟩
    refine WL.rb 94 rfl (bF k330) ?_
    refine WL.on rfl rfl ?_
    refine fa fl56_3 rfl rfl ?_
    refine WL.on rfl rfl ?_
    refine ld 1 na4 rfl rfl rfl rfl ?_
    refine pkF rfl rfl rfl ?_
    refine mv rfl rfl ?_
    rcases spl hj327 with ⟨k331, hj327⟩ | ⟨k331, hj327⟩
    · skip
      refine WL.rb 98 rfl (bt1 k331) ?_
      refine WL.no rfl rfl rfl rfl ?_
      refine WL.no rfl rfl rfl rfl ?_
      refine WL.no rfl rfl rfl rfl ?_
      refine WL.no rfl rfl rfl rfl ?_
      refine pkT rfl rfl rfl ?_
      refine mv rfl rfl ?_
      refine WL.no rfl rfl rfl rfl ?_
      refine WL.no rfl rfl rfl rfl ?_
      refine WL.no rfl rfl rfl rfl ?_
      refine WL.no rfl rfl rfl rfl ?_
      refine WL.no rfl rfl rfl rfl ?_
      refine WL.no rfl rfl rfl rfl ?_
      refine pkT rfl rfl rfl ?_
      refine mv rfl rfl ?_
      refine WL.no rfl rfl rfl rfl ?_
      refine WL.no rfl rfl rfl rfl ?_
      refine WL.no rfl rfl rfl rfl ?_
      refine WL.no rfl rfl rfl rfl ?_
      refine WL.no rfl rfl rfl rfl ?_
      refine pkT rfl rfl rfl ?_
      refine mv rfl rfl ?_
      refine WL.no rfl rfl rfl rfl ?_
      refine WL.no rfl rfl rfl rfl ?_
      refine WL.no rfl rfl rfl rfl ?_
      refine pkT rfl rfl rfl ?_
      refine WL.del 1 ?_
      refine WL.nil ?_
      refine WX.front 2 ?_
      refine WX.front 2 ?_
      refine WX.front 2 ?_
      exact (kj327 true _ lj327 (Option.some.inj hj327)).sub ⟨rfl, rfl, rfl, rfl, rfl, rfl, rfl, rfl, rfl, trivial⟩
    refine WL.rb 98 rfl (bf1 k331) ?_
    refine WL.on rfl rfl ?_
    refine fa fl56_0 rfl rfl ?_
    refine WL.on rfl rfl ?_
    refine ld 0 na3 rfl rfl rfl rfl ?_
    refine WL.on rfl rfl ?_
    refine mv rfl rfl ?_
    refine WL.on rfl rfl ?_
    refine ne rfl rfl rfl ?_
    refine pkF rfl rfl rfl ?_
    refine mv rfl rfl ?_
    rcases spl hj327 with ⟨k332, hj327⟩ | ⟨k332, hj327⟩
    · skip
      refine WL.rb 104 rfl (bT k332) ?_
      refine WL.no rfl rfl rfl rfl ?_
      refine WL.no rfl rfl rfl rfl ?_
      refine WL.no rfl rfl rfl rfl ?_
      refine WL.no rfl rfl rfl rfl ?_
      refine WL.no rfl rfl rfl rfl ?_
      refine WL.no rfl rfl rfl rfl ?_
      refine pkT rfl rfl rfl ?_
      refine mv rfl rfl ?_
      refine WL.no rfl rfl rfl rfl ?_
      refine WL.no rfl rfl rfl rfl ?_
      refine WL.no rfl rfl rfl rfl ?_
      refine WL.no rfl rfl rfl rfl ?_
      refine WL.no rfl rfl rfl rfl ?_
      refine pkT rfl rfl rfl ?_
      refine mv rfl rfl ?_
      refine WL.no rfl rfl rfl rfl ?_
      refine WL.no rfl rfl rfl rfl ?_
      refine WL.no rfl rfl rfl rfl ?_
      refine pkT rfl rfl rfl ?_
      refine WL.del 1 ?_
      refine WL.nil ?_
      refine WX.front 2 ?_
      refine WX.front 2 ?_
      refine WX.front 2 ?_
      exact (kj327 true _ lj327 (Option.some.inj hj327)).sub ⟨rfl, rfl, rfl, rfl, rfl, rfl, rfl, rfl, rfl, trivial⟩
    refine WL.rb 104 rfl (bF k332) ?_
    refine WL.on rfl rfl ?_
    refine fa fl56_1 rfl rfl ?_
    refine WL.on rfl rfl ?_
    refine ld 0 na37 rfl rfl rfl rfl ?_
    refine WL.on rfl rfl ?_
    refine ln et37 rfl (h309.rd) rfl ?_
    refine WL.on rfl rfl ?_
    refine mv rfl rfl ?_
    refine WL.on rfl rfl ?_
    refine ln et37 rfl (OV.rd 3 rfl) rfl ?_
    refine WL.on rfl rfl ?_
    refine ne rfl rfl rfl ?_
    refine pkF rfl rfl rfl ?_
    refine mv rfl rfl ?_
    rcases spl hj327 with ⟨k333, hj327⟩ | ⟨k333, hj327⟩
    · skip
      refine WL.rb 112 rfl (bT k333) ?_
      refine WL.no rfl rfl rfl rfl ?_
      refine WL.no rfl rfl rfl rfl ?_
      refine WL.no rfl rfl rfl rfl ?_
      refine WL.no rfl rfl rfl rfl ?_
      refine WL.no rfl rfl rfl rfl ?_
      refine pkT rfl rfl rfl ?_
      refine mv rfl rfl ?_
      refine WL.no rfl rfl rfl rfl ?_
      refine WL.no rfl rfl rfl rfl ?_
      refine WL.no rfl rfl rfl rfl ?_
      refine pkT rfl rfl rfl ?_
      refine WL.del 1 ?_
      refine WL.nil ?_
      refine WX.front 2 ?_
      refine WX.front 2 ?_
      refine WX.front 2 ?_
      exact (kj327 true _ lj327 (Option.some.inj hj327)).sub ⟨rfl, rfl, rfl, rfl, rfl, rfl, rfl, rfl, rfl, trivial⟩
    refine WL.rb 112 rfl (bF k333) ?_
    refine WL.on rfl rfl ?_
    refine fa fl56_2 rfl rfl ?_
    refine WL.on rfl rfl ?_
    refine ld 0 na3 rfl rfl rfl rfl ?_
    refine WL.on rfl rfl ?_
    refine mv rfl rfl ?_
    refine WL.on rfl rfl ?_
    refine ln et22 rfl (h301.rd) rfl ?_
    refine WL.on rfl rfl ?_
    refine ne rfl rfl rfl ?_
    refine pkF rfl rfl rfl ?_
    refine mv rfl rfl ?_
    rcases spl hj327 with ⟨k334, hj327⟩ | ⟨k334, hj327⟩
    · skip
      refine WL.rb 119 rfl (bT k334) ?_
      refine WL.no rfl rfl rfl rfl ?_
      refine WL.no rfl rfl rfl rfl ?_
      refine WL.no rfl rfl rfl rfl ?_
      refine pkT rfl rfl rfl ?_
      refine WL.del 1 ?_
      refine WL.nil ?_
      refine WX.front 2 ?_
      refine WX.front 2 ?_
      refine WX.front 2 ?_
      exact (kj327 true _ lj327 (Option.some.inj hj327)).sub ⟨rfl, rfl, rfl, rfl, rfl, rfl, rfl, rfl, rfl, trivial⟩
    refine WL.rb 119 rfl (bF k334) ?_
    refine WL.on rfl rfl ?_
    refine fa fl56_3 rfl rfl ?_
    refine WL.on rfl rfl ?_
    refine ld 0 na4 rfl rfl rfl rfl ?_
    refine WL.on rfl rfl ?_
    refine nt rfl rfl ?_
    refine pkF rfl rfl rfl ?_
    refine WL.del 1 ?_
    refine WL.nil ?_
    refine WX.front 2 ?_
    refine WX.front 2 ?_
    refine WX.front 2 ?_
    exact (kj327 (!x302.Sealed) _ lj327 (Option.some.inj hj327)).sub ⟨rfl, rfl, rfl, rfl, rfl, rfl, rfl, rfl, rfl, trivial⟩
  rintro x326 J335 hJ336 rfl
  have hI := hI.trans hJ336
  replace h269 := h269.up hJ336; replace h301 := h301.up hJ336; replace h309 := h309.up hJ336
  refine WX.then_ ?_
  refine WC.iteb rfl h (fun k337 h => ?_) (fun k337 h => ?_)
  · skip
    refine WC.seq ?_
    refine WC.region ?_
    refine asg rfl rfl ?_
    refine WL.del 0 ?_
    refine WL.del 0 ?_
    refine WL.del 0 ?_
    refine WL.next ?_
    refine WC.ret ?_
    refine WX.then_ret ?_
    cases h
    exact ret1 Try.results10 rfl hI ⟨rfl, rfl⟩
  refine WC.skip ?_
  refine WX.then_ ?_
  refine WC.seq ?_
  refine WC.seq ?_
  refine WC.region ?_
  refine mv rfl rfl ?_
  refine ln et37 rfl (OV.rd 2 rfl) rfl ?_
  refine mv rfl rfl ?_
  refine WL.next ?_
  obtain ⟨j394, hj394, h⟩ := bnd h
  refine WC.joinQ (σ := Unit) (fun _ => [(0, (.int .i64 (w64 (1 + x1)))), (2, (.int .i64 p2)), (3, (.int .i64 p3)), (9, (.slice a139 x138.length c140)), (10, (.slice a136 x135.length c137)), (15, (.slice a297 (x280 ++ x288).length c298))]) (fun _ => OV 3 (.slice a136 x135.length c137) x135 :: G) (fun _ J => Sum.inr () = j394) (fun kj394 => ?_) ?_
  · skip
    have lj394 := Mem.le.refl J335
    refine WC.block ?_
    refine WC.front 2 ?_
    refine WC.front 2 ?_
    refine WC.front 2 ?_
    refine WC.loop (σ := Int) (fun k x395 => haulierlaw09_SegmentBack_l1 x141 x302 k x395) _ (fun x395 => [(0, (.int .i64 (w64 (1 + x1)))), (2, (.int .i64 p2)), (3, (.int .i64 p3)), (9, (.slice a139 x138.length c140)), (10, (.slice a136 x135.length c137)), (11, (.slice a142 x141.length c143)), (15, (.slice a297 (x280 ++ x288).length c298)), (16, (.pointer (some ⟨g310, 0, none⟩))), (125, (.int .i64 (x141.length : Int))), (126, (.int .i64 x395))]) (fun x395 => bl g310 #[(.int .i64 x302.Number), (.slice a307 x302.Records.length c308), (.int .i64 x302.Whole), (.bool x302.Sealed)] 56 :: OV 3 (.slice a136 x135.length c137) x135 :: OV 22 (.slice a142 x141.length c143) x141 :: G) (fun x395 J => True) (fun x395 => rfl) bigN 0 hj394 trivial ⟨rfl, rfl, rfl, rfl, rfl, rfl, rfl, rfl, rfl, rfl, trivial⟩ rfl ?_
    rintro k1 ih1 x395 J423 hJ424 - hj394
    change haulierlaw09_SegmentBack_l1 x141 x302 (k1 + 1) x395 = _ at hj394
    rw [haulierlaw09_SegmentBack_l1] at hj394
    have hI := hI.trans hJ424
    have lj394 := lj394.trans hJ424
    replace h269 := h269.up hJ424; replace h301 := h301.up hJ424; replace h309 := h309.up hJ424
    have ll1 := hJ424
    refine WC.seq ?_
    refine WC.region ?_
    refine lt rfl rfl rfl ?_
    refine WL.next ?_
    refine WC.seq ?_
    refine WC.ite rfl hj394 (fun k425 hj394 => ?_) (fun k425 hj394 => ?_)
    · skip
      refine WC.skip ?_
      refine WX.then_ ?_
      refine WC.seq ?_
      refine WC.block ?_
      refine WC.seq ?_
      refine WC.region ?_
      refine mv rfl rfl ?_
      refine asg rfl rfl ?_
      refine WL.next ?_
      refine WC.seq ?_
      refine WC.sub (r := [(0, (.int .i64 (w64 (1 + x1)))), (2, (.int .i64 p2)), (3, (.int .i64 p3)), (9, (.slice a139 x138.length c140)), (10, (.slice a136 x135.length c137)), (11, (.slice a142 x141.length c143)), (15, (.slice a297 (x280 ++ x288).length c298)), (16, (.pointer (some ⟨g310, 0, none⟩))), (125, (.int .i64 (x141.length : Int))), (126, (.int .i64 x395)), (17, (.int .i64 x395))]) ?_ ⟨rfl, rfl, rfl, rfl, rfl, rfl, rfl, rfl, rfl, rfl, rfl, trivial⟩
      obtain ⟨z426, e427, hj394⟩ := bnd hj394
      obtain ⟨k434, hj394⟩ := chk hj394
      obtain ⟨z439, e440, hj394⟩ := bnd hj394
      obtain ⟨x443, e444, hj394⟩ := bnd hj394
      refine WC.front 2 ?_
      refine WC.front 1 ?_
      refine WC.drawn mo (nthL [[], [0], [], [0, 1, 2], [0, 1, 2, 3], [], [], [5, 6], [5, 6, 7], [0, 1, 2, 3, 4, 5, 6, 7, 8], [0, 1, 2, 3, 4, 5, 6, 7, 8, 9]]) (nthL [[], [0], [], [1, 2], [3], [], [], [5, 6], [7], [4, 8], [9]]) (nthK [.val (.pointer (some ⟨g310, 1, none⟩)), .val (.slice a307 x302.Records.length c308), .val (.int .i64 x395), .ip z426, .imm z426, .val (.slice a142 x141.length c143), .val (.int .i64 x395), .of (fun v _ => At (List UInt8) (.slice a142 x141.length c143) (x395 : Int).toNat v) (fun _ h => h), .imm z439, .val (.bool x443), .val (.bool (!x443))]) [⟨none, none, [1], [], fun _ => bl g310 #[(.int .i64 x302.Number), (.slice a307 x302.Records.length c308), (.int .i64 x302.Whole), (.bool x302.Sealed)] 56⟩, ⟨none, none, [7, 8], [], fun _ => OV 22 (.slice a142 x141.length c143) x141⟩] (by kernel_rfl) (by kernel_rfl) (by kernel_rfl) (H := OV 3 (.slice a136 x135.length c137) x135 :: G) rfl ⟨?_, ?_, ?_, ?_, ?_, ?_, ?_, ?_, ?_, ?_, ?_, trivial⟩ ?_
      · intro Q ρ I1 H hI1 hk hpost
        have hc := Mem.le.refl I1
        refine fa fl56_1 rfl rfl ?_
        refine WL.nil ?_
        exact hpost _ _ hc rfl _ (fun _ hd => by obtain rfl := Option.some.inj hd; exact ⟨rfl, trivial⟩)
      · intro Q ρ I1 H hI1 hk hpost
        obtain ⟨_, -⟩ := hk
        have hc := Mem.le.refl I1
        refine ld 0 na37 rfl rfl rfl rfl ?_
        refine WL.nil ?_
        exact hpost _ _ hc rfl _ (fun _ hd => by obtain rfl := Option.some.inj hd; exact ⟨rfl, trivial⟩)
      · intro Q ρ I1 H hI1 hk hpost
        have hc := Mem.le.refl I1
        refine mv rfl rfl ?_
        refine WL.nil ?_
        exact hpost _ _ hc rfl _ (fun _ hd => by obtain rfl := Option.some.inj hd; exact ⟨rfl, trivial⟩)
      · intro Q ρ I1 H hI1 hk hpost
        obtain ⟨_, _, -⟩ := hk
        replace h309 := h309.up hI1
        have hc := Mem.le.refl I1
        refine ixi et37 rfl rfl h309 e427 rfl (fun uv428 h429 => ?_)
        refine WL.nil ?_
        exact hpost _ _ hc h429 _ (fun _ hd => by obtain rfl := Option.some.inj hd; exact ⟨rfl, trivial⟩)
      · intro Q ρ I1 H hI1 hk hpost
        obtain ⟨k3, -⟩ := hk
        have hc := Mem.le.refl I1
        refine ldi (α := List UInt8) na22 rfl k3 rfl (fun uv430 h431 => ?_)
        replace h431 := h431.sl; obtain ⟨a432, c433, rfl⟩ := h431.hd
        refine WL.nil ?_
        exact hpost _ _ hc h431 _ (fun _ hd => by obtain rfl := Option.some.inj hd; exact ⟨rfl, trivial⟩)
      · intro Q ρ I1 H hI1 hk hpost
        have hc := Mem.le.refl I1
        refine mv rfl rfl ?_
        refine WL.nil ?_
        exact hpost _ _ hc rfl _ (fun _ hd => by obtain rfl := Option.some.inj hd; exact ⟨rfl, trivial⟩)
      · intro Q ρ I1 H hI1 hk hpost
        have hc := Mem.le.refl I1
        refine mv rfl rfl ?_
        refine WL.nil ?_
        exact hpost _ _ hc rfl _ (fun _ hd => by obtain rfl := Option.some.inj hd; exact ⟨rfl, trivial⟩)
      · intro Q ρ I1 H hI1 hk hpost
        obtain ⟨_, _, -⟩ := hk
        have hc := Mem.le.refl I1
        refine ixo 0 et37 rfl rfl rfl k434 rfl (fun uv435 h436 => ?_)
        refine WL.nil ?_
        exact hpost _ _ hc h436 _ (fun _ hd => by obtain rfl := Option.some.inj hd; exact ⟨rfl, trivial⟩)
      · intro Q ρ I1 H hI1 hk hpost
        obtain ⟨k7, -⟩ := hk
        have hc := Mem.le.refl I1
        refine ldo (α := List UInt8) 0 na22 rfl k7 rfl e440 rfl (fun uv437 h438 => ?_)
        replace h438 := h438.sl; obtain ⟨a441, c442, rfl⟩ := h438.hd
        refine WL.nil ?_
        exact hpost _ _ hc h438 _ (fun _ hd => by obtain rfl := Option.some.inj hd; exact ⟨rfl, trivial⟩)
      · intro Q ρ I1 H hI1 hk hpost
        obtain ⟨k4, k8, -⟩ := hk
        have hc := Mem.le.refl I1
        refine call cl17 rfl rfl (W17 e444 k4 k8) (fun _ J445 _ hJ446 q447 => ?_)
        have hc := hc.trans hJ446
        replace k4 := k4.up hJ446; replace k8 := k8.up hJ446
        obtain ⟨rfl, rfl⟩ := q447
        refine WL.nil ?_
        exact hpost _ _ hc rfl _ (fun _ hd => by obtain rfl := Option.some.inj hd; exact ⟨rfl, trivial⟩)
      · intro Q ρ I1 H hI1 hk hpost
        obtain ⟨_, -⟩ := hk
        have hc := Mem.le.refl I1
        refine nt rfl rfl ?_
        refine WL.nil ?_
        exact hpost _ _ hc rfl _ (fun _ hd => by obtain rfl := Option.some.inj hd; exact ⟨rfl, trivial⟩)
      rintro ρ J448 hJ449 -
      refine WX.sub (r := [(0, (.int .i64 (w64 (1 + x1)))), (2, (.int .i64 p2)), (3, (.int .i64 p3)), (9, (.slice a139 x138.length c140)), (10, (.slice a136 x135.length c137)), (11, (.slice a142 x141.length c143)), (15, (.slice a297 (x280 ++ x288).length c298)), (16, (.pointer (some ⟨g310, 0, none⟩))), (125, (.int .i64 (x141.length : Int))), (126, (.int .i64 x395)), (139, (.bool (!x443)))]) ?_ ⟨rfl, rfl, rfl, rfl, rfl, rfl, rfl, rfl, rfl, rfl, rfl, trivial⟩
      refine WX.is (H := bl g310 #[(.int .i64 x302.Number), (.slice a307 x302.Records.length c308), (.int .i64 x302.Whole), (.bool x302.Sealed)] 56 :: OV 22 (.slice a142 x141.length c143) x141 :: OV 3 (.slice a136 x135.length c137) x135 :: G) rfl ?_
      have hI := hI.trans hJ449
      have lj394 := lj394.trans hJ449
      have ll1 := ll1.trans hJ449
      replace h269 := h269.up hJ449; replace h301 := h301.up hJ449; replace h309 := h309.up hJ449
      refine WX.then_ ?_
      refine WC.itebn rfl hj394 (fun k450 hj394 => ?_) (fun k450 hj394 => ?_)
      · skip
        refine WC.skip ?_
        refine WX.block_normal ?_
        refine WX.then_ ?_
        refine WC.region ?_
        refine ad rfl rfl rfl ?_
        refine mv rfl rfl ?_
        refine WL.nil ?_
        refine WX.front 1 ?_
        refine WX.front 2 ?_
        refine WX.front 2 ?_
        refine WX.round ?_
        exact (ih1 (w64 (x395 + 1)) _ ll1 trivial hj394).sub ⟨rfl, rfl, rfl, rfl, rfl, rfl, rfl, rfl, rfl, rfl, trivial⟩
      refine WC.seq ?_
      refine WC.region ?_
      refine asg rfl rfl ?_
      refine WL.del 0 ?_
      refine WL.del 0 ?_
      refine WL.del 0 ?_
      refine WL.next ?_
      refine WC.ret ?_
      refine WX.block_ret ?_
      refine WX.then_ret ?_
      refine WX.then_ret ?_
      refine WX.block_ret ?_
      refine WX.then_ret ?_
      cases hj394
      replace h : some _ = some _ := h
      cases h
      exact ret1 Try.results10 rfl hI ⟨rfl, rfl⟩
    refine WC.exit ?_
    refine WX.then_exit ?_
    refine WX.then_exit ?_
    refine WX.block_here ?_
    refine WX.front 1 ?_
    refine WX.del 1 ?_
    refine WX.del 1 ?_
    exact (kj394 () _ lj394 (Option.some.inj hj394)).sub ⟨rfl, rfl, rfl, rfl, rfl, rfl, trivial⟩
  rintro ⟨⟩ J451 hJ452 rfl
  have hI := hI.trans hJ452
  replace h269 := h269.up hJ452; replace h301 := h301.up hJ452
  refine WX.then_ ?_
  refine WC.seq ?_
  refine WC.region ?_
  refine mv rfl rfl ?_
  refine mv rfl rfl ?_
  refine ln et22 rfl (h269.rd) rfl ?_
  refine ad rfl rfl rfl ?_
  obtain ⟨x453, e454, h⟩ := bnd h
  refine call cl19 rfl rfl (W19 e454) (fun _ J455 _ hJ456 q457 => ?_)
  have hI := hI.trans hJ456
  replace h269 := h269.up hJ456; replace h301 := h301.up hJ456
  obtain ⟨rfl, rfl⟩ := q457
  refine asg rfl rfl ?_
  refine WL.next ?_
  refine WC.seq ?_
  refine WC.region ?_
  refine asg rfl rfl ?_
  refine WL.next ?_
  refine WC.seq ?_
  obtain ⟨j481, hj481, h⟩ := bnd h
  refine WC.joinQ (σ := Int) (fun x480 => [(0, (.int .i64 (w64 (1 + x1)))), (2, (.int .i64 x453)), (3, (.int .i64 p3)), (9, (.slice a139 x138.length c140)), (10, (.slice a136 x135.length c137)), (15, (.slice a297 (x280 ++ x288).length c298)), (18, (.int .i64 x480))]) (fun x480 => OV 3 (.slice a136 x135.length c137) x135 :: G) (fun x480 J => x480 = j481) (fun kj481 => ?_) ?_
  · skip
    have lj481 := Mem.le.refl J455
    refine WC.block ?_
    refine WC.loop (σ := Int) (fun k x482 => haulierlaw09_SegmentBack_l2 x135 x453 k x482) _ (fun x482 => [(0, (.int .i64 (w64 (1 + x1)))), (2, (.int .i64 x453)), (3, (.int .i64 p3)), (9, (.slice a139 x138.length c140)), (10, (.slice a136 x135.length c137)), (15, (.slice a297 (x280 ++ x288).length c298)), (18, (.int .i64 x482))]) (fun x482 => OV 3 (.slice a136 x135.length c137) x135 :: G) (fun x482 J => True) (fun x482 => rfl) bigN 0 hj481 trivial ⟨rfl, rfl, rfl, rfl, rfl, rfl, rfl, trivial⟩ rfl ?_
    rintro k2 ih2 x482 J493 hJ494 - hj481
    change haulierlaw09_SegmentBack_l2 x135 x453 (k2 + 1) x482 = _ at hj481
    rw [haulierlaw09_SegmentBack_l2] at hj481
    have hI := hI.trans hJ494
    have lj481 := lj481.trans hJ494
    replace h269 := h269.up hJ494; replace h301 := h301.up hJ494
    have ll2 := hJ494
    refine WC.seq ?_
    refine WC.seq ?_
    refine WC.region ?_
    refine mv rfl rfl ?_
    refine mv rfl rfl ?_
    refine ln et59 rfl (OV.rd 0 rfl) rfl ?_
    refine lt rfl rfl rfl ?_
    refine mv rfl rfl ?_
    rcases spl hj481 with ⟨k495, hj481⟩ | ⟨k495, hj481⟩
    · skip
      refine WL.rb 150 rfl (bT k495) ?_
      refine WL.on rfl rfl ?_
      refine mv rfl rfl ?_
      refine WL.on rfl rfl ?_
      refine mv rfl rfl ?_
      refine WL.on rfl rfl ?_
      obtain ⟨k496, hj481⟩ := chk hj481
      refine ixo 0 et59 rfl rfl rfl k496 rfl (fun uv497 h498 => ?_)
      refine WL.on rfl rfl ?_
      obtain ⟨z501, e502, hj481⟩ := bnd hj481
      refine ldo (α := Int) 0 na3 rfl h498 rfl e502 rfl (fun uv499 h500 => ?_)
      obtain rfl := h500.int
      refine WL.on rfl rfl ?_
      refine mv rfl rfl ?_
      refine WL.on rfl rfl ?_
      refine le rfl rfl rfl ?_
      refine pkT rfl rfl rfl ?_
      refine WL.next ?_
      refine WC.ite rfl hj481 (fun k503 hj481 => ?_) (fun k503 hj481 => ?_)
      · skip
        refine WC.skip ?_
        refine WX.then_ ?_
        refine WC.block ?_
        refine WC.region ?_
        refine mv rfl rfl ?_
        refine ad rfl rfl rfl ?_
        refine asg rfl rfl ?_
        refine WL.nil ?_
        refine WX.block_normal ?_
        refine WX.round ?_
        exact (ih2 (w64 (x482 + 1)) _ ll2 trivial hj481).sub ⟨rfl, rfl, rfl, rfl, rfl, rfl, rfl, trivial⟩
      refine WC.exit ?_
      refine WX.then_exit ?_
      refine WX.then_exit ?_
      refine WX.block_here ?_
      exact (kj481 x482 _ lj481 (Option.some.inj hj481)).sub ⟨rfl, rfl, rfl, rfl, rfl, rfl, rfl, trivial⟩
    refine WL.rb 150 rfl (bF k495) ?_
    refine WL.no rfl rfl rfl rfl ?_
    refine WL.no rfl rfl rfl rfl ?_
    refine WL.no rfl rfl rfl rfl ?_
    refine WL.no rfl rfl rfl rfl ?_
    refine WL.no rfl rfl rfl rfl ?_
    refine WL.no rfl rfl rfl rfl ?_
    refine pkF rfl rfl rfl ?_
    refine WL.next ?_
    refine WC.cond rfl (fun k => by cases k) (fun _ => ?_)
    refine WC.exit ?_
    refine WX.then_exit ?_
    refine WX.then_exit ?_
    refine WX.block_here ?_
    exact (kj481 x482 _ lj481 (Option.some.inj hj481)).sub ⟨rfl, rfl, rfl, rfl, rfl, rfl, rfl, trivial⟩
  rintro x480 J504 hJ505 rfl
  have hI := hI.trans hJ505
  replace h269 := h269.up hJ505; replace h301 := h301.up hJ505
  refine WX.then_ ?_
  refine WC.seq ?_
  refine WC.region ?_
  refine mv rfl rfl ?_
  refine mv rfl rfl ?_
  obtain ⟨y506, e507, h⟩ := bnd h
  refine cti (kl := .i64) (kh := .i64) et22 rfl h301 (.inl ⟨rfl, rfl, rfl⟩) (.inr ⟨_, rfl, rfl, rfl⟩) e507 rfl (fun a508 c509 h510 => ?_)
  obtain ⟨x511, e512, h⟩ := bnd h
  refine call cl44 rfl rfl (W44 e512 h510) (fun _ J513 _ hJ514 q515 => ?_)
  have hI := hI.trans hJ514
  replace h269 := h269.up hJ514; replace h301 := h301.up hJ514; replace h510 := h510.up hJ514
  obtain ⟨a516, c517, rfl, h518, rfl⟩ := q515
  refine al Try.zeroValue56 rfl (fun g519 => ?_)
  refine sta (C' := #[(.int .i64 x511.Number), (.slice a516 x511.Records.length c517), (.int .i64 x511.Whole), (.bool x511.Sealed)]) sz56 rfl rfl rfl rfl rfl rfl ?_
  refine WL.next ?_
  refine WC.seq ?_
  refine WC.seq ?_
  refine WC.region ?_
  refine mv rfl rfl ?_
  refine eq rfl rfl rfl ?_
  refine WL.next ?_
  refine WC.ite rfl h (fun k521 h => ?_) (fun k521 h => ?_)
  · skip
    refine WC.seq ?_
    obtain ⟨j541, hj541, h⟩ := bnd h
    refine WC.joinQ (σ := Bool) (fun x540 => [(8, (.bool x540))]) (fun x540 => G) (fun x540 J => x540 = j541) (fun kj541 => ?_) ?_
    · skip
      have lj541 := Mem.le.refl J513
      refine WC.region ?_
      refine fa fl56_0 rfl rfl ?_
      refine ld 0 na3 rfl rfl rfl rfl ?_
      refine eq rfl rfl rfl ?_
      refine mv rfl rfl ?_
      rcases spl hj541 with ⟨k542, hj541⟩ | ⟨k542, hj541⟩
      · skip
        refine WL.rb 169 rfl (bT k542) ?_
        refine WL.on rfl rfl ?_
        refine fa fl56_1 rfl rfl ?_
        refine WL.on rfl rfl ?_
        refine ld 0 na37 rfl rfl rfl rfl ?_
        refine WL.on rfl rfl ?_
        refine ln et37 rfl (h518.rd) rfl ?_
        refine WL.on rfl rfl ?_
        refine eq rfl rfl rfl ?_
        refine pkT rfl rfl rfl ?_
        refine mv rfl rfl ?_
        rcases spl hj541 with ⟨k543, hj541⟩ | ⟨k543, hj541⟩
        · skip
          refine WL.rb 175 rfl (bT k543) ?_
          refine WL.on rfl rfl ?_
          refine fa fl56_2 rfl rfl ?_
          refine WL.on rfl rfl ?_
          refine ld 0 na3 rfl rfl rfl rfl ?_
          refine WL.on rfl rfl ?_
          refine eq rfl rfl rfl ?_
          refine pkT rfl rfl rfl ?_
          refine mv rfl rfl ?_
          rcases spl hj541 with ⟨k544, hj541⟩ | ⟨k544, hj541⟩
          · skip
            refine WL.rb 180 rfl (bT k544) ?_
            refine WL.on rfl rfl ?_
            refine fa fl56_3 rfl rfl ?_
            refine WL.on rfl rfl ?_
            refine ld 0 na4 rfl rfl rfl rfl ?_
            refine WL.on rfl rfl ?_
            refine nt rfl rfl ?_
            refine pkT rfl rfl rfl ?_
            refine mv rfl rfl ?_
            rcases spl hj541 with ⟨k545, hj541⟩ | ⟨k545, hj541⟩
            · skip
              refine WL.rb 185 rfl (bt1n k545) ?_
              refine WL.no rfl rfl rfl rfl ?_
              refine pkF rfl rfl rfl ?_
              refine asg rfl rfl ?_
              refine WL.del 0 ?_
              refine WL.del 0 ?_
              refine WL.nil ?_
              exact (kj541 false _ lj541 (Option.some.inj hj541)).sub ⟨rfl, trivial⟩
            refine WL.rb 185 rfl (bf1n k545) ?_
            refine WL.on rfl rfl ?_
            obtain ⟨x546, e547, hj541⟩ := bnd hj541
            refine call cl42 rfl rfl (W42 e547) (fun _ J548 _ hJ549 q550 => ?_)
            have hI := hI.trans hJ549
            have lj541 := lj541.trans hJ549
            replace h269 := h269.up hJ549; replace h301 := h301.up hJ549; replace h518 := h518.up hJ549
            obtain ⟨rfl, rfl⟩ := q550
            refine pkT rfl rfl rfl ?_
            refine asg rfl rfl ?_
            refine WL.del 0 ?_
            refine WL.del 0 ?_
            refine WL.nil ?_
            exact (kj541 x546 _ lj541 (Option.some.inj hj541)).sub ⟨rfl, trivial⟩
          refine WL.rb 180 rfl (bF k544) ?_
          refine WL.no rfl rfl rfl rfl ?_
          refine WL.no rfl rfl rfl rfl ?_
          refine WL.no rfl rfl rfl rfl ?_
          refine pkF rfl rfl rfl ?_
          refine mv rfl rfl ?_
          refine WL.no rfl rfl rfl rfl ?_
          refine pkF rfl rfl rfl ?_
          refine asg rfl rfl ?_
          refine WL.del 0 ?_
          refine WL.del 0 ?_
          refine WL.nil ?_
          exact (kj541 false _ lj541 (Option.some.inj hj541)).sub ⟨rfl, trivial⟩
        refine WL.rb 175 rfl (bF k543) ?_
        refine WL.no rfl rfl rfl rfl ?_
        refine WL.no rfl rfl rfl rfl ?_
        refine WL.no rfl rfl rfl rfl ?_
        refine pkF rfl rfl rfl ?_
        refine mv rfl rfl ?_
        refine WL.no rfl rfl rfl rfl ?_
        refine WL.no rfl rfl rfl rfl ?_
        refine WL.no rfl rfl rfl rfl ?_
        refine pkF rfl rfl rfl ?_
        refine mv rfl rfl ?_
        refine WL.no rfl rfl rfl rfl ?_
        refine pkF rfl rfl rfl ?_
        refine asg rfl rfl ?_
        refine WL.del 0 ?_
        refine WL.del 0 ?_
        refine WL.nil ?_
        exact (kj541 false _ lj541 (Option.some.inj hj541)).sub ⟨rfl, trivial⟩
      refine WL.rb 169 rfl (bF k542) ?_
      refine WL.no rfl rfl rfl rfl ?_
      refine WL.no rfl rfl rfl rfl ?_
      refine WL.no rfl rfl rfl rfl ?_
      refine WL.no rfl rfl rfl rfl ?_
      refine pkF rfl rfl rfl ?_
      refine mv rfl rfl ?_
      refine WL.no rfl rfl rfl rfl ?_
      refine WL.no rfl rfl rfl rfl ?_
      refine WL.no rfl rfl rfl rfl ?_
      refine pkF rfl rfl rfl ?_
      refine mv rfl rfl ?_
      refine WL.no rfl rfl rfl rfl ?_
      refine WL.no rfl rfl rfl rfl ?_
      refine WL.no rfl rfl rfl rfl ?_
      refine pkF rfl rfl rfl ?_
      refine mv rfl rfl ?_
      refine WL.no rfl rfl rfl rfl ?_
      refine pkF rfl rfl rfl ?_
      refine asg rfl rfl ?_
      refine WL.del 0 ?_
      refine WL.del 0 ?_
      refine WL.nil ?_
      exact (kj541 false _ lj541 (Option.some.inj hj541)).sub ⟨rfl, trivial⟩
    rintro x540 J551 hJ552 rfl
    have hI := hI.trans hJ552
    refine WX.then_ ?_
    refine WC.ret ?_
    refine WX.then_ret ?_
    cases h
    exact ret1 Try.results10 rfl hI ⟨rfl, rfl⟩
  refine WC.skip ?_
  refine WX.then_ ?_
  refine WC.seq ?_
  refine WC.seq ?_
  obtain ⟨j590, hj590, h⟩ := bnd h
  refine WC.joinQ (σ := Bool) (fun x589 => [(3, (.int .i64 p3)), (9, (.slice a139 x138.length c140)), (10, (.slice a136 x135.length c137)), (15, (.slice a297 (x280 ++ x288).length c298)), (213, (.bool x589))]) (fun x589 => OV 3 (.slice a136 x135.length c137) x135 :: G) (fun x589 J => x589 = j590) (fun kj590 => ?_) ?_
  · skip
    have lj590 := Mem.le.refl J513
    refine WC.sub (r := [(0, (.int .i64 (w64 (1 + x1)))), (3, (.int .i64 p3)), (9, (.slice a139 x138.length c140)), (10, (.slice a136 x135.length c137)), (15, (.slice a297 (x280 ++ x288).length c298)), (18, (.int .i64 x480)), (19, (.pointer (some ⟨g519, 0, none⟩)))]) ?_ ⟨rfl, rfl, rfl, rfl, rfl, rfl, rfl, trivial⟩
    rcases spl hj590 with ⟨k591, hj590⟩ | ⟨k591, hj590⟩
    · skip
      refine WC.drawn mo (nthL [[], [0], [], [0, 1, 2], [0, 1, 2, 3], [0, 1, 2, 3, 4], [0, 1, 2, 3, 4, 5], [0, 1, 2, 3, 4, 5, 6], [0, 1, 2, 3, 4], [0, 1, 2, 3, 4, 8], [0, 1, 2, 3, 4, 5, 6, 7, 8, 9], [0, 1, 2, 3, 4, 5, 6, 7, 8, 9, 10], [0, 1, 2, 3, 4, 5, 6, 7, 8, 9, 10, 11], [0, 1, 2, 3, 4, 5, 6, 7, 8, 9, 10, 11, 12], [0, 1, 2, 3, 4, 5, 6, 7, 8, 9, 10, 11, 12, 13], [0, 1, 2, 3, 4, 5, 6, 7, 8, 9, 10, 11, 12], [0, 1, 2, 3, 4, 5, 6, 7, 8, 9, 10, 11, 12], [0, 1, 2, 3, 4, 5, 6, 7, 8, 9, 10, 11, 12, 16], [0, 1, 2, 3, 4, 5, 6, 7, 8, 9, 10, 11, 12, 15, 16, 17], [0, 1, 2, 3, 4, 5, 6, 7, 8, 9, 10, 11, 12, 15, 16, 17, 18], [0, 1, 2, 3, 4, 5, 6, 7, 8, 9, 10, 11, 12, 13, 14, 15, 16, 17, 18, 19], [0, 1, 2, 3, 4, 5, 6, 7, 8, 9, 10, 11, 12, 13, 14, 15, 16, 17, 18, 19, 20], [0, 1, 2, 3, 4, 5, 6, 7, 8, 9, 10, 11, 12, 13, 14, 15, 16, 17, 18, 19, 20, 21], [0, 1, 2, 3, 4, 5, 6, 7, 8, 9, 10, 11, 12, 13, 14, 15, 16, 17, 18, 19, 20, 21, 22], [0, 1, 2, 3, 4, 5, 6, 7, 8, 9, 10, 11, 12, 13, 14, 15, 16, 17, 18, 19, 20, 21, 22, 23], [0, 1, 2, 3, 4, 5, 6, 7, 8, 9, 10, 11, 12, 13, 14, 15, 16, 17, 18, 19, 20, 21, 22, 23, 24]]) (nthL [[], [0], [], [1, 2], [3], [4], [4], [4], [4], [4], [4], [4, 10], [11], [12], [12], [12], [12], [12], [12], [12], [12], [12, 20], [21], [22], [22], [22, 24]]) (nthK [.val (.pointer (some ⟨g519, 0, none⟩)), .val (.int .i64 x511.Number), .val (.int .i64 (w64 (1 + x1))), .val (.bool (decide (x511.Number ≠ (w64 (1 + x1))))), .val (.bool true), .val undef, .val undef, .val undef, .val undef, .val undef, .val undef, .val (.bool true), .val (.bool true), .val undef, .val undef, .val undef, .val undef, .val undef, .val undef, .val undef, .val undef, .val (.bool true), .val (.bool true), .val undef, .val undef, .val (.bool true)]) [⟨none, none, [1], [], fun _ => bl g519 #[(.int .i64 x511.Number), (.slice a516 x511.Records.length c517), (.int .i64 x511.Whole), (.bool x511.Sealed)] 56⟩] (by kernel_rfl) (by kernel_rfl) (by kernel_rfl) (H := OV 3 (.slice a136 x135.length c137) x135 :: G) rfl ⟨?_, ?_, ?_, ?_, ?_, ?_, ?_, ?_, ?_, ?_, ?_, ?_, ?_, ?_, ?_, ?_, ?_, ?_, ?_, ?_, ?_, ?_, ?_, ?_, ?_, ?_, trivial⟩ ?_
      · intro Q ρ I1 H hI1 hk hpost
        have hc := Mem.le.refl I1
        refine fa fl56_0 rfl rfl ?_
        refine WL.nil ?_
        exact hpost _ _ hc rfl _ (fun _ hd => by obtain rfl := Option.some.inj hd; exact ⟨rfl, trivial⟩)
      · intro Q ρ I1 H hI1 hk hpost
        obtain ⟨_, -⟩ := hk
        have hc := Mem.le.refl I1
        refine ld 0 na3 rfl rfl rfl rfl ?_
        refine WL.nil ?_
        exact hpost _ _ hc rfl _ (fun _ hd => by obtain rfl := Option.some.inj hd; exact ⟨rfl, trivial⟩)
      · intro Q ρ I1 H hI1 hk hpost
        have hc := Mem.le.refl I1
        refine mv rfl rfl ?_
        refine WL.nil ?_
        exact hpost _ _ hc rfl _ (fun _ hd => by obtain rfl := Option.some.inj hd; exact ⟨rfl, trivial⟩)
      · intro Q ρ I1 H hI1 hk hpost
        obtain ⟨_, _, -⟩ := hk
        have hc := Mem.le.refl I1
        refine ne rfl rfl rfl ?_
        refine WL.nil ?_
        exact hpost _ _ hc rfl _ (fun _ hd => by obtain rfl := Option.some.inj hd; exact ⟨rfl, trivial⟩)
      · intro Q ρ I1 H hI1 hk hpost
        obtain ⟨_, -⟩ := hk
        have hc := Mem.le.refl I1
        refine mv rfl rfl ?_
        refine WL.nil ?_
        exact hpost _ _ hc (bT k591) _ (fun _ hd => by obtain rfl := Option.some.inj hd; exact ⟨rfl, trivial⟩)
      · intro Q ρ I1 H hI1 hk hpost
        obtain ⟨_, -⟩ := hk
        have hc := Mem.le.refl I1
        refine WL.no rfl rfl rfl rfl ?_
        refine WL.nil ?_
        exact hpost _ _ hc rfl _ (fun _ hd => by obtain rfl := Option.some.inj hd; exact ⟨rfl, trivial⟩)
      · intro Q ρ I1 H hI1 hk hpost
        obtain ⟨_, -⟩ := hk
        have hc := Mem.le.refl I1
        refine WL.no rfl rfl rfl rfl ?_
        refine WL.nil ?_
        exact hpost _ _ hc rfl _ (fun _ hd => by obtain rfl := Option.some.inj hd; exact ⟨rfl, trivial⟩)
      · intro Q ρ I1 H hI1 hk hpost
        obtain ⟨_, -⟩ := hk
        have hc := Mem.le.refl I1
        refine WL.no rfl rfl rfl rfl ?_
        refine WL.nil ?_
        exact hpost _ _ hc rfl _ (fun _ hd => by obtain rfl := Option.some.inj hd; exact ⟨rfl, trivial⟩)
      · intro Q ρ I1 H hI1 hk hpost
        obtain ⟨_, -⟩ := hk
        have hc := Mem.le.refl I1
        refine WL.no rfl rfl rfl rfl ?_
        refine WL.nil ?_
        exact hpost _ _ hc rfl _ (fun _ hd => by obtain rfl := Option.some.inj hd; exact ⟨rfl, trivial⟩)
      · intro Q ρ I1 H hI1 hk hpost
        obtain ⟨_, -⟩ := hk
        have hc := Mem.le.refl I1
        refine WL.no rfl rfl rfl rfl ?_
        refine WL.nil ?_
        exact hpost _ _ hc rfl _ (fun _ hd => by obtain rfl := Option.some.inj hd; exact ⟨rfl, trivial⟩)
      · intro Q ρ I1 H hI1 hk hpost
        obtain ⟨_, -⟩ := hk
        have hc := Mem.le.refl I1
        refine WL.no rfl rfl rfl rfl ?_
        refine WL.nil ?_
        exact hpost _ _ hc rfl _ (fun _ hd => by obtain rfl := Option.some.inj hd; exact ⟨rfl, trivial⟩)
      · intro Q ρ I1 H hI1 hk hpost
        obtain ⟨_, _, -⟩ := hk
        have hc := Mem.le.refl I1
        refine pkT rfl rfl rfl ?_
        refine WL.nil ?_
        exact hpost _ _ hc rfl _ (fun _ hd => by obtain rfl := Option.some.inj hd; exact ⟨rfl, trivial⟩)
      · intro Q ρ I1 H hI1 hk hpost
        obtain ⟨_, -⟩ := hk
        have hc := Mem.le.refl I1
        refine mv rfl rfl ?_
        refine WL.nil ?_
        exact hpost _ _ hc rfl _ (fun _ hd => by obtain rfl := Option.some.inj hd; exact ⟨rfl, trivial⟩)
      · intro Q ρ I1 H hI1 hk hpost
        obtain ⟨_, -⟩ := hk
        have hc := Mem.le.refl I1
        refine WL.no rfl rfl rfl rfl ?_
        refine WL.nil ?_
        exact hpost _ _ hc rfl _ (fun _ hd => by obtain rfl := Option.some.inj hd; exact ⟨rfl, trivial⟩)
      · intro Q ρ I1 H hI1 hk hpost
        obtain ⟨_, -⟩ := hk
        have hc := Mem.le.refl I1
        refine WL.no rfl rfl rfl rfl ?_
        refine WL.nil ?_
        exact hpost _ _ hc rfl _ (fun _ hd => by obtain rfl := Option.some.inj hd; exact ⟨rfl, trivial⟩)
      · intro Q ρ I1 H hI1 hk hpost
        obtain ⟨_, -⟩ := hk
        have hc := Mem.le.refl I1
        refine WL.no rfl rfl rfl rfl ?_
        refine WL.nil ?_
        exact hpost _ _ hc rfl _ (fun _ hd => by obtain rfl := Option.some.inj hd; exact ⟨rfl, trivial⟩)
      · intro Q ρ I1 H hI1 hk hpost
        obtain ⟨_, -⟩ := hk
        have hc := Mem.le.refl I1
        refine WL.no rfl rfl rfl rfl ?_
        refine WL.nil ?_
        exact hpost _ _ hc rfl _ (fun _ hd => by obtain rfl := Option.some.inj hd; exact ⟨rfl, trivial⟩)
      · intro Q ρ I1 H hI1 hk hpost
        obtain ⟨_, -⟩ := hk
        have hc := Mem.le.refl I1
        refine WL.no rfl rfl rfl rfl ?_
        refine WL.nil ?_
        exact hpost _ _ hc rfl _ (fun _ hd => by obtain rfl := Option.some.inj hd; exact ⟨rfl, trivial⟩)
      · intro Q ρ I1 H hI1 hk hpost
        obtain ⟨_, -⟩ := hk
        have hc := Mem.le.refl I1
        refine WL.no rfl rfl rfl rfl ?_
        refine WL.nil ?_
        exact hpost _ _ hc rfl _ (fun _ hd => by obtain rfl := Option.some.inj hd; exact ⟨rfl, trivial⟩)
      · intro Q ρ I1 H hI1 hk hpost
        obtain ⟨_, -⟩ := hk
        have hc := Mem.le.refl I1
        refine WL.no rfl rfl rfl rfl ?_
        refine WL.nil ?_
        exact hpost _ _ hc rfl _ (fun _ hd => by obtain rfl := Option.some.inj hd; exact ⟨rfl, trivial⟩)
      · intro Q ρ I1 H hI1 hk hpost
        obtain ⟨_, -⟩ := hk
        have hc := Mem.le.refl I1
        refine WL.no rfl rfl rfl rfl ?_
        refine WL.nil ?_
        exact hpost _ _ hc rfl _ (fun _ hd => by obtain rfl := Option.some.inj hd; exact ⟨rfl, trivial⟩)
      · intro Q ρ I1 H hI1 hk hpost
        obtain ⟨_, _, -⟩ := hk
        have hc := Mem.le.refl I1
        refine pkT rfl rfl rfl ?_
        refine WL.nil ?_
        exact hpost _ _ hc rfl _ (fun _ hd => by obtain rfl := Option.some.inj hd; exact ⟨rfl, trivial⟩)
      · intro Q ρ I1 H hI1 hk hpost
        obtain ⟨_, -⟩ := hk
        have hc := Mem.le.refl I1
        refine mv rfl rfl ?_
        refine WL.nil ?_
        exact hpost _ _ hc rfl _ (fun _ hd => by obtain rfl := Option.some.inj hd; exact ⟨rfl, trivial⟩)
      · intro Q ρ I1 H hI1 hk hpost
        obtain ⟨_, -⟩ := hk
        have hc := Mem.le.refl I1
        refine WL.no rfl rfl rfl rfl ?_
        refine WL.nil ?_
        exact hpost _ _ hc rfl _ (fun _ hd => by obtain rfl := Option.some.inj hd; exact ⟨rfl, trivial⟩)
      · intro Q ρ I1 H hI1 hk hpost
        obtain ⟨_, -⟩ := hk
        have hc := Mem.le.refl I1
        refine WL.no rfl rfl rfl rfl ?_
        refine WL.nil ?_
        exact hpost _ _ hc rfl _ (fun _ hd => by obtain rfl := Option.some.inj hd; exact ⟨rfl, trivial⟩)
      · intro Q ρ I1 H hI1 hk hpost
        obtain ⟨_, _, -⟩ := hk
        have hc := Mem.le.refl I1
        refine pkT rfl rfl rfl ?_
        refine WL.nil ?_
        exact hpost _ _ hc rfl _ (fun _ hd => by obtain rfl := Option.some.inj hd; exact ⟨rfl, trivial⟩)
      rintro ρ J592 hJ593 -
      refine WX.sub (r := [(3, (.int .i64 p3)), (9, (.slice a139 x138.length c140)), (10, (.slice a136 x135.length c137)), (15, (.slice a297 (x280 ++ x288).length c298)), (213, (.bool true))]) ?_ ⟨rfl, rfl, rfl, rfl, rfl, trivial⟩
      refine WX.is (H := bl g519 #[(.int .i64 x511.Number), (.slice a516 x511.Records.length c517), (.int .i64 x511.Whole), (.bool x511.Sealed)] 56 :: OV 3 (.slice a136 x135.length c137) x135 :: G) rfl ?_
      have hI := hI.trans hJ593
      have lj590 := lj590.trans hJ593
      replace h269 := h269.up hJ593; replace h301 := h301.up hJ593; replace h518 := h518.up hJ593
      refine WX.front 1 ?_
      refine WX.del 1 ?_
      exact (kj590 true _ lj590 (Option.some.inj hj590)).sub ⟨rfl, rfl, rfl, rfl, rfl, trivial⟩
    rcases spl hj590 with ⟨k594, hj590⟩ | ⟨k594, hj590⟩
    · skip
      refine WC.drawn mo (nthL [[], [0], [], [0, 1, 2], [0, 1, 2, 3], [0, 1, 2, 3, 4], [0, 1, 2, 3, 4, 5], [0, 1, 2, 3, 4, 5, 6], [0, 1, 2, 3, 4], [0, 1, 2, 3, 4, 8], [0, 1, 2, 3, 4, 5, 6, 7, 8, 9], [0, 1, 2, 3, 4, 5, 6, 7, 8, 9, 10], [0, 1, 2, 3, 4, 5, 6, 7, 8, 9, 10, 11], [0, 1, 2, 3, 4, 5, 6, 7, 8, 9, 10, 11, 12], [0, 1, 2, 3, 4, 5, 6, 7, 8, 9, 10, 11, 12, 13], [0, 1, 2, 3, 4, 5, 6, 7, 8, 9, 10, 11, 12], [0, 1, 2, 3, 4, 5, 6, 7, 8, 9, 10, 11, 12], [0, 1, 2, 3, 4, 5, 6, 7, 8, 9, 10, 11, 12, 16], [0, 1, 2, 3, 4, 5, 6, 7, 8, 9, 10, 11, 12, 15, 16, 17], [0, 1, 2, 3, 4, 5, 6, 7, 8, 9, 10, 11, 12, 15, 16, 17, 18], [0, 1, 2, 3, 4, 5, 6, 7, 8, 9, 10, 11, 12, 13, 14, 15, 16, 17, 18, 19], [0, 1, 2, 3, 4, 5, 6, 7, 8, 9, 10, 11, 12, 13, 14, 15, 16, 17, 18, 19, 20], [0, 1, 2, 3, 4, 5, 6, 7, 8, 9, 10, 11, 12, 13, 14, 15, 16, 17, 18, 19, 20, 21], [0, 1, 2, 3, 4, 5, 6, 7, 8, 9, 10, 11, 12, 13, 14, 15, 16, 17, 18, 19, 20, 21, 22], [0, 1, 2, 3, 4, 5, 6, 7, 8, 9, 10, 11, 12, 13, 14, 15, 16, 17, 18, 19, 20, 21, 22, 23], [0, 1, 2, 3, 4, 5, 6, 7, 8, 9, 10, 11, 12, 13, 14, 15, 16, 17, 18, 19, 20, 21, 22, 23, 24]]) (nthL [[], [0], [], [1, 2], [3], [4], [4, 5], [4, 6], [4], [4, 8], [4, 7, 9], [4, 10], [11], [12], [12], [12], [12], [12], [12], [12], [12], [12, 20], [21], [22], [22], [22, 24]]) (nthK [.val (.pointer (some ⟨g519, 0, none⟩)), .val (.int .i64 x511.Number), .val (.int .i64 (w64 (1 + x1))), .val (.bool (decide (x511.Number ≠ (w64 (1 + x1))))), .val (.bool false), .val (.pointer (some ⟨g519, 1, none⟩)), .val (.slice a516 x511.Records.length c517), .val (.int .i64 (x511.Records.length : Int)), .val (.int .i64 x480), .val (.int .i64 (w64 (x480 - 1))), .val (.bool (decide ((x511.Records.length : Int) ≠ (w64 (x480 - 1))))), .val (.bool (decide ((x511.Records.length : Int) ≠ (w64 (x480 - 1))))), .val (.bool true), .val undef, .val undef, .val undef, .val undef, .val undef, .val undef, .val undef, .val undef, .val (.bool true), .val (.bool true), .val undef, .val undef, .val (.bool true)]) [⟨none, none, [1, 6], [], fun _ => bl g519 #[(.int .i64 x511.Number), (.slice a516 x511.Records.length c517), (.int .i64 x511.Whole), (.bool x511.Sealed)] 56⟩] (by kernel_rfl) (by kernel_rfl) (by kernel_rfl) (H := OV 3 (.slice a136 x135.length c137) x135 :: G) rfl ⟨?_, ?_, ?_, ?_, ?_, ?_, ?_, ?_, ?_, ?_, ?_, ?_, ?_, ?_, ?_, ?_, ?_, ?_, ?_, ?_, ?_, ?_, ?_, ?_, ?_, ?_, trivial⟩ ?_
      · intro Q ρ I1 H hI1 hk hpost
        have hc := Mem.le.refl I1
        refine fa fl56_0 rfl rfl ?_
        refine WL.nil ?_
        exact hpost _ _ hc rfl _ (fun _ hd => by obtain rfl := Option.some.inj hd; exact ⟨rfl, trivial⟩)
      · intro Q ρ I1 H hI1 hk hpost
        obtain ⟨_, -⟩ := hk
        have hc := Mem.le.refl I1
        refine ld 0 na3 rfl rfl rfl rfl ?_
        refine WL.nil ?_
        exact hpost _ _ hc rfl _ (fun _ hd => by obtain rfl := Option.some.inj hd; exact ⟨rfl, trivial⟩)
      · intro Q ρ I1 H hI1 hk hpost
        have hc := Mem.le.refl I1
        refine mv rfl rfl ?_
        refine WL.nil ?_
        exact hpost _ _ hc rfl _ (fun _ hd => by obtain rfl := Option.some.inj hd; exact ⟨rfl, trivial⟩)
      · intro Q ρ I1 H hI1 hk hpost
        obtain ⟨_, _, -⟩ := hk
        have hc := Mem.le.refl I1
        refine ne rfl rfl rfl ?_
        refine WL.nil ?_
        exact hpost _ _ hc rfl _ (fun _ hd => by obtain rfl := Option.some.inj hd; exact ⟨rfl, trivial⟩)
      · intro Q ρ I1 H hI1 hk hpost
        obtain ⟨_, -⟩ := hk
        have hc := Mem.le.refl I1
        refine mv rfl rfl ?_
        refine WL.nil ?_
        exact hpost _ _ hc (bF k591) _ (fun _ hd => by obtain rfl := Option.some.inj hd; exact ⟨rfl, trivial⟩)
      · intro Q ρ I1 H hI1 hk hpost
        obtain ⟨_, -⟩ := hk
        have hc := Mem.le.refl I1
        refine WL.on rfl rfl ?_
        refine fa fl56_1 rfl rfl ?_
        refine WL.nil ?_
        exact hpost _ _ hc rfl _ (fun _ hd => by obtain rfl := Option.some.inj hd; exact ⟨rfl, trivial⟩)
      · intro Q ρ I1 H hI1 hk hpost
        obtain ⟨_, _, -⟩ := hk
        have hc := Mem.le.refl I1
        refine WL.on rfl rfl ?_
        refine ld 0 na37 rfl rfl rfl rfl ?_
        refine WL.nil ?_
        exact hpost _ _ hc rfl _ (fun _ hd => by obtain rfl := Option.some.inj hd; exact ⟨rfl, trivial⟩)
      · intro Q ρ I1 H hI1 hk hpost
        obtain ⟨_, _, -⟩ := hk
        replace h518 := h518.up hI1
        have hc := Mem.le.refl I1
        refine WL.on rfl rfl ?_
        refine ln et37 rfl (h518.rd) rfl ?_
        refine WL.nil ?_
        exact hpost _ _ hc rfl _ (fun _ hd => by obtain rfl := Option.some.inj hd; exact ⟨rfl, trivial⟩)
      · intro Q ρ I1 H hI1 hk hpost
        obtain ⟨_, -⟩ := hk
        have hc := Mem.le.refl I1
        refine WL.on rfl rfl ?_
        refine mv rfl rfl ?_
        refine WL.nil ?_
        exact hpost _ _ hc rfl _ (fun _ hd => by obtain rfl := Option.some.inj hd; exact ⟨rfl, trivial⟩)
      · intro Q ρ I1 H hI1 hk hpost
        obtain ⟨_, _, -⟩ := hk
        have hc := Mem.le.refl I1
        refine WL.on rfl rfl ?_
        refine su rfl rfl rfl ?_
        refine WL.nil ?_
        exact hpost _ _ hc rfl _ (fun _ hd => by obtain rfl := Option.some.inj hd; exact ⟨rfl, trivial⟩)
      · intro Q ρ I1 H hI1 hk hpost
        obtain ⟨_, _, _, -⟩ := hk
        have hc := Mem.le.refl I1
        refine WL.on rfl rfl ?_
        refine ne rfl rfl rfl ?_
        refine WL.nil ?_
        exact hpost _ _ hc rfl _ (fun _ hd => by obtain rfl := Option.some.inj hd; exact ⟨rfl, trivial⟩)
      · intro Q ρ I1 H hI1 hk hpost
        obtain ⟨_, _, -⟩ := hk
        have hc := Mem.le.refl I1
        refine pkF rfl rfl rfl ?_
        refine WL.nil ?_
        exact hpost _ _ hc rfl _ (fun _ hd => by obtain rfl := Option.some.inj hd; exact ⟨rfl, trivial⟩)
      · intro Q ρ I1 H hI1 hk hpost
        obtain ⟨_, -⟩ := hk
        have hc := Mem.le.refl I1
        refine mv rfl rfl ?_
        refine WL.nil ?_
        exact hpost _ _ hc (bT k594) _ (fun _ hd => by obtain rfl := Option.some.inj hd; exact ⟨rfl, trivial⟩)
      · intro Q ρ I1 H hI1 hk hpost
        obtain ⟨_, -⟩ := hk
        have hc := Mem.le.refl I1
        refine WL.no rfl rfl rfl rfl ?_
        refine WL.nil ?_
        exact hpost _ _ hc rfl _ (fun _ hd => by obtain rfl := Option.some.inj hd; exact ⟨rfl, trivial⟩)
      · intro Q ρ I1 H hI1 hk hpost
        obtain ⟨_, -⟩ := hk
        have hc := Mem.le.refl I1
        refine WL.no rfl rfl rfl rfl ?_
        refine WL.nil ?_
        exact hpost _ _ hc rfl _ (fun _ hd => by obtain rfl := Option.some.inj hd; exact ⟨rfl, trivial⟩)
      · intro Q ρ I1 H hI1 hk hpost
        obtain ⟨_, -⟩ := hk
        have hc := Mem.le.refl I1
        refine WL.no rfl rfl rfl rfl ?_
        refine WL.nil ?_
        exact hpost _ _ hc rfl _ (fun _ hd => by obtain rfl := Option.some.inj hd; exact ⟨rfl, trivial⟩)
      · intro Q ρ I1 H hI1 hk hpost
        obtain ⟨_, -⟩ := hk
        have hc := Mem.le.refl I1
        refine WL.no rfl rfl rfl rfl ?_
        refine WL.nil ?_
        exact hpost _ _ hc rfl _ (fun _ hd => by obtain rfl := Option.some.inj hd; exact ⟨rfl, trivial⟩)
      · intro Q ρ I1 H hI1 hk hpost
        obtain ⟨_, -⟩ := hk
        have hc := Mem.le.refl I1
        refine WL.no rfl rfl rfl rfl ?_
        refine WL.nil ?_
        exact hpost _ _ hc rfl _ (fun _ hd => by obtain rfl := Option.some.inj hd; exact ⟨rfl, trivial⟩)
      · intro Q ρ I1 H hI1 hk hpost
        obtain ⟨_, -⟩ := hk
        have hc := Mem.le.refl I1
        refine WL.no rfl rfl rfl rfl ?_
        refine WL.nil ?_
        exact hpost _ _ hc rfl _ (fun _ hd => by obtain rfl := Option.some.inj hd; exact ⟨rfl, trivial⟩)
      · intro Q ρ I1 H hI1 hk hpost
        obtain ⟨_, -⟩ := hk
        have hc := Mem.le.refl I1
        refine WL.no rfl rfl rfl rfl ?_
        refine WL.nil ?_
        exact hpost _ _ hc rfl _ (fun _ hd => by obtain rfl := Option.some.inj hd; exact ⟨rfl, trivial⟩)
      · intro Q ρ I1 H hI1 hk hpost
        obtain ⟨_, -⟩ := hk
        have hc := Mem.le.refl I1
        refine WL.no rfl rfl rfl rfl ?_
        refine WL.nil ?_
        exact hpost _ _ hc rfl _ (fun _ hd => by obtain rfl := Option.some.inj hd; exact ⟨rfl, trivial⟩)
      · intro Q ρ I1 H hI1 hk hpost
        obtain ⟨_, _, -⟩ := hk
        have hc := Mem.le.refl I1
        refine pkT rfl rfl rfl ?_
        refine WL.nil ?_
        exact hpost _ _ hc rfl _ (fun _ hd => by obtain rfl := Option.some.inj hd; exact ⟨rfl, trivial⟩)
      · intro Q ρ I1 H hI1 hk hpost
        obtain ⟨_, -⟩ := hk
        have hc := Mem.le.refl I1
        refine mv rfl rfl ?_
        refine WL.nil ?_
        exact hpost _ _ hc rfl _ (fun _ hd => by obtain rfl := Option.some.inj hd; exact ⟨rfl, trivial⟩)
      · intro Q ρ I1 H hI1 hk hpost
        obtain ⟨_, -⟩ := hk
        have hc := Mem.le.refl I1
        refine WL.no rfl rfl rfl rfl ?_
        refine WL.nil ?_
        exact hpost _ _ hc rfl _ (fun _ hd => by obtain rfl := Option.some.inj hd; exact ⟨rfl, trivial⟩)
      · intro Q ρ I1 H hI1 hk hpost
        obtain ⟨_, -⟩ := hk
        have hc := Mem.le.refl I1
        refine WL.no rfl rfl rfl rfl ?_
        refine WL.nil ?_
        exact hpost _ _ hc rfl _ (fun _ hd => by obtain rfl := Option.some.inj hd; exact ⟨rfl, trivial⟩)
      · intro Q ρ I1 H hI1 hk hpost
        obtain ⟨_, _, -⟩ := hk
        have hc := Mem.le.refl I1
        refine pkT rfl rfl rfl ?_
        refine WL.nil ?_
        exact hpost _ _ hc rfl _ (fun _ hd => by obtain rfl := Option.some.inj hd; exact ⟨rfl, trivial⟩)
      rintro ρ J595 hJ596 -
      refine WX.sub (r := [(3, (.int .i64 p3)), (9, (.slice a139 x138.length c140)), (10, (.slice a136 x135.length c137)), (15, (.slice a297 (x280 ++ x288).length c298)), (213, (.bool true))]) ?_ ⟨rfl, rfl, rfl, rfl, rfl, trivial⟩
      refine WX.is (H := bl g519 #[(.int .i64 x511.Number), (.slice a516 x511.Records.length c517), (.int .i64 x511.Whole), (.bool x511.Sealed)] 56 :: OV 3 (.slice a136 x135.length c137) x135 :: G) rfl ?_
      have hI := hI.trans hJ596
      have lj590 := lj590.trans hJ596
      replace h269 := h269.up hJ596; replace h301 := h301.up hJ596; replace h518 := h518.up hJ596
      refine WX.front 1 ?_
      refine WX.del 1 ?_
      exact (kj590 true _ lj590 (Option.some.inj hj590)).sub ⟨rfl, rfl, rfl, rfl, rfl, trivial⟩
    obtain ⟨k597, hj590⟩ := chk hj590
    obtain ⟨z602, e603, hj590⟩ := bnd hj590
    rcases spl hj590 with ⟨k604, hj590⟩ | ⟨k604, hj590⟩
    · skip
      refine WC.front 1 ?_
      refine WC.front 1 ?_
      refine WC.drawn mo (nthL [[], [0], [], [0, 1, 2], [0, 1, 2, 3], [0, 1, 2, 3, 4], [0, 1, 2, 3, 4, 5], [0, 1, 2, 3, 4, 5, 6], [0, 1, 2, 3, 4], [0, 1, 2, 3, 4, 8], [0, 1, 2, 3, 4, 5, 6, 7, 8, 9], [0, 1, 2, 3, 4, 5, 6, 7, 8, 9, 10], [0, 1, 2, 3, 4, 5, 6, 7, 8, 9, 10, 11], [0, 1, 2, 3, 4, 5, 6, 7, 8, 9, 10, 11, 12], [0, 1, 2, 3, 4, 5, 6, 7, 8, 9, 10, 11, 12, 13], [0, 1, 2, 3, 4, 5, 6, 7, 8, 9, 10, 11, 12], [0, 1, 2, 3, 4, 5, 6, 7, 8, 9, 10, 11, 12], [0, 1, 2, 3, 4, 5, 6, 7, 8, 9, 10, 11, 12, 16], [0, 1, 2, 3, 4, 5, 6, 7, 8, 9, 10, 11, 12, 15, 16, 17], [0, 1, 2, 3, 4, 5, 6, 7, 8, 9, 10, 11, 12, 15, 16, 17, 18], [0, 1, 2, 3, 4, 5, 6, 7, 8, 9, 10, 11, 12, 13, 14, 15, 16, 17, 18, 19], [0, 1, 2, 3, 4, 5, 6, 7, 8, 9, 10, 11, 12, 13, 14, 15, 16, 17, 18, 19, 20], [0, 1, 2, 3, 4, 5, 6, 7, 8, 9, 10, 11, 12, 13, 14, 15, 16, 17, 18, 19, 20, 21], [0, 1, 2, 3, 4, 5, 6, 7, 8, 9, 10, 11, 12, 13, 14, 15, 16, 17, 18, 19, 20, 21, 22], [0, 1, 2, 3, 4, 5, 6, 7, 8, 9, 10, 11, 12, 13, 14, 15, 16, 17, 18, 19, 20, 21, 22, 23], [0, 1, 2, 3, 4, 5, 6, 7, 8, 9, 10, 11, 12, 13, 14, 15, 16, 17, 18, 19, 20, 21, 22, 23, 24]]) (nthL [[], [0], [], [1, 2], [3], [4], [4, 5], [4, 6], [4], [4, 8], [4, 7, 9], [4, 10], [11], [12], [12, 13], [12], [12], [12, 16], [12, 15, 17], [12, 18], [12, 14, 19], [12, 20], [21], [22], [22], [22, 24]]) (nthK [.val (.pointer (some ⟨g519, 0, none⟩)), .val (.int .i64 x511.Number), .val (.int .i64 (w64 (1 + x1))), .val (.bool (decide (x511.Number ≠ (w64 (1 + x1))))), .val (.bool false), .val (.pointer (some ⟨g519, 1, none⟩)), .val (.slice a516 x511.Records.length c517), .val (.int .i64 (x511.Records.length : Int)), .val (.int .i64 x480), .val (.int .i64 (w64 (x480 - 1))), .val (.bool (decide ((x511.Records.length : Int) ≠ (w64 (x480 - 1))))), .val (.bool (decide ((x511.Records.length : Int) ≠ (w64 (x480 - 1))))), .val (.bool false), .val (.pointer (some ⟨g519, 2, none⟩)), .val (.int .i64 x511.Whole), .val (.slice a136 x135.length c137), .val (.int .i64 x480), .val (.int .i64 (w64 (x480 - 1))), .of (fun v _ => At Int (.slice a136 x135.length c137) (w64 (x480 - 1) : Int).toNat v) (fun _ h => h), .val (.int .i64 z602), .val (.bool (decide (x511.Whole ≠ z602))), .val (.bool (decide (x511.Whole ≠ z602))), .val (.bool true), .val undef, .val undef, .val (.bool true)]) [⟨none, none, [1, 6, 14], [], fun _ => bl g519 #[(.int .i64 x511.Number), (.slice a516 x511.Records.length c517), (.int .i64 x511.Whole), (.bool x511.Sealed)] 56⟩, ⟨none, none, [18, 19], [], fun _ => OV 3 (.slice a136 x135.length c137) x135⟩] (by kernel_rfl) (by kernel_rfl) (by kernel_rfl) (H := G) rfl ⟨?_, ?_, ?_, ?_, ?_, ?_, ?_, ?_, ?_, ?_, ?_, ?_, ?_, ?_, ?_, ?_, ?_, ?_, ?_, ?_, ?_, ?_, ?_, ?_, ?_, ?_, trivial⟩ ?_
      · intro Q ρ I1 H hI1 hk hpost
        have hc := Mem.le.refl I1
        refine fa fl56_0 rfl rfl ?_
        refine WL.nil ?_
        exact hpost _ _ hc rfl _ (fun _ hd => by obtain rfl := Option.some.inj hd; exact ⟨rfl, trivial⟩)
      · intro Q ρ I1 H hI1 hk hpost
        obtain ⟨_, -⟩ := hk
        have hc := Mem.le.refl I1
        refine ld 0 na3 rfl rfl rfl rfl ?_
        refine WL.nil ?_
        exact hpost _ _ hc rfl _ (fun _ hd => by obtain rfl := Option.some.inj hd; exact ⟨rfl, trivial⟩)
      · intro Q ρ I1 H hI1 hk hpost
        have hc := Mem.le.refl I1
        refine mv rfl rfl ?_
        refine WL.nil ?_
        exact hpost _ _ hc rfl _ (fun _ hd => by obtain rfl := Option.some.inj hd; exact ⟨rfl, trivial⟩)
      · intro Q ρ I1 H hI1 hk hpost
        obtain ⟨_, _, -⟩ := hk
        have hc := Mem.le.refl I1
        refine ne rfl rfl rfl ?_
        refine WL.nil ?_
        exact hpost _ _ hc rfl _ (fun _ hd => by obtain rfl := Option.some.inj hd; exact ⟨rfl, trivial⟩)
      · intro Q ρ I1 H hI1 hk hpost
        obtain ⟨_, -⟩ := hk
        have hc := Mem.le.refl I1
        refine mv rfl rfl ?_
        refine WL.nil ?_
        exact hpost _ _ hc (bF k591) _ (fun _ hd => by obtain rfl := Option.some.inj hd; exact ⟨rfl, trivial⟩)
      · intro Q ρ I1 H hI1 hk hpost
        obtain ⟨_, -⟩ := hk
        have hc := Mem.le.refl I1
        refine WL.on rfl rfl ?_
        refine fa fl56_1 rfl rfl ?_
        refine WL.nil ?_
        exact hpost _ _ hc rfl _ (fun _ hd => by obtain rfl := Option.some.inj hd; exact ⟨rfl, trivial⟩)
      · intro Q ρ I1 H hI1 hk hpost
        obtain ⟨_, _, -⟩ := hk
        have hc := Mem.le.refl I1
        refine WL.on rfl rfl ?_
        refine ld 0 na37 rfl rfl rfl rfl ?_
        refine WL.nil ?_
        exact hpost _ _ hc rfl _ (fun _ hd => by obtain rfl := Option.some.inj hd; exact ⟨rfl, trivial⟩)
      · intro Q ρ I1 H hI1 hk hpost
        obtain ⟨_, _, -⟩ := hk
        replace h518 := h518.up hI1
        have hc := Mem.le.refl I1
        refine WL.on rfl rfl ?_
        refine ln et37 rfl (h518.rd) rfl ?_
        refine WL.nil ?_
        exact hpost _ _ hc rfl _ (fun _ hd => by obtain rfl := Option.some.inj hd; exact ⟨rfl, trivial⟩)
      · intro Q ρ I1 H hI1 hk hpost
        obtain ⟨_, -⟩ := hk
        have hc := Mem.le.refl I1
        refine WL.on rfl rfl ?_
        refine mv rfl rfl ?_
        refine WL.nil ?_
        exact hpost _ _ hc rfl _ (fun _ hd => by obtain rfl := Option.some.inj hd; exact ⟨rfl, trivial⟩)
      · intro Q ρ I1 H hI1 hk hpost
        obtain ⟨_, _, -⟩ := hk
        have hc := Mem.le.refl I1
        refine WL.on rfl rfl ?_
        refine su rfl rfl rfl ?_
        refine WL.nil ?_
        exact hpost _ _ hc rfl _ (fun _ hd => by obtain rfl := Option.some.inj hd; exact ⟨rfl, trivial⟩)
      · intro Q ρ I1 H hI1 hk hpost
        obtain ⟨_, _, _, -⟩ := hk
        have hc := Mem.le.refl I1
        refine WL.on rfl rfl ?_
        refine ne rfl rfl rfl ?_
        refine WL.nil ?_
        exact hpost _ _ hc rfl _ (fun _ hd => by obtain rfl := Option.some.inj hd; exact ⟨rfl, trivial⟩)
      · intro Q ρ I1 H hI1 hk hpost
        obtain ⟨_, _, -⟩ := hk
        have hc := Mem.le.refl I1
        refine pkF rfl rfl rfl ?_
        refine WL.nil ?_
        exact hpost _ _ hc rfl _ (fun _ hd => by obtain rfl := Option.some.inj hd; exact ⟨rfl, trivial⟩)
      · intro Q ρ I1 H hI1 hk hpost
        obtain ⟨_, -⟩ := hk
        have hc := Mem.le.refl I1
        refine mv rfl rfl ?_
        refine WL.nil ?_
        exact hpost _ _ hc (bF k594) _ (fun _ hd => by obtain rfl := Option.some.inj hd; exact ⟨rfl, trivial⟩)
      · intro Q ρ I1 H hI1 hk hpost
        obtain ⟨_, -⟩ := hk
        have hc := Mem.le.refl I1
        refine WL.on rfl rfl ?_
        refine fa fl56_2 rfl rfl ?_
        refine WL.nil ?_
        exact hpost _ _ hc rfl _ (fun _ hd => by obtain rfl := Option.some.inj hd; exact ⟨rfl, trivial⟩)
      · intro Q ρ I1 H hI1 hk hpost
        obtain ⟨_, _, -⟩ := hk
        have hc := Mem.le.refl I1
        refine WL.on rfl rfl ?_
        refine ld 0 na3 rfl rfl rfl rfl ?_
        refine WL.nil ?_
        exact hpost _ _ hc rfl _ (fun _ hd => by obtain rfl := Option.some.inj hd; exact ⟨rfl, trivial⟩)
      · intro Q ρ I1 H hI1 hk hpost
        obtain ⟨_, -⟩ := hk
        have hc := Mem.le.refl I1
        refine WL.on rfl rfl ?_
        refine mv rfl rfl ?_
        refine WL.nil ?_
        exact hpost _ _ hc rfl _ (fun _ hd => by obtain rfl := Option.some.inj hd; exact ⟨rfl, trivial⟩)
      · intro Q ρ I1 H hI1 hk hpost
        obtain ⟨_, -⟩ := hk
        have hc := Mem.le.refl I1
        refine WL.on rfl rfl ?_
        refine mv rfl rfl ?_
        refine WL.nil ?_
        exact hpost _ _ hc rfl _ (fun _ hd => by obtain rfl := Option.some.inj hd; exact ⟨rfl, trivial⟩)
      · intro Q ρ I1 H hI1 hk hpost
        obtain ⟨_, _, -⟩ := hk
        have hc := Mem.le.refl I1
        refine WL.on rfl rfl ?_
        refine su rfl rfl rfl ?_
        refine WL.nil ?_
        exact hpost _ _ hc rfl _ (fun _ hd => by obtain rfl := Option.some.inj hd; exact ⟨rfl, trivial⟩)
      · intro Q ρ I1 H hI1 hk hpost
        obtain ⟨_, _, _, -⟩ := hk
        have hc := Mem.le.refl I1
        refine WL.on rfl rfl ?_
        refine ixo 0 et59 rfl rfl rfl k597 rfl (fun uv598 h599 => ?_)
        refine WL.nil ?_
        exact hpost _ _ hc h599 _ (fun _ hd => by obtain rfl := Option.some.inj hd; exact ⟨rfl, trivial⟩)
      · intro Q ρ I1 H hI1 hk hpost
        obtain ⟨_, k18, -⟩ := hk
        have hc := Mem.le.refl I1
        refine WL.on rfl rfl ?_
        refine ldo (α := Int) 0 na3 rfl k18 rfl e603 rfl (fun uv600 h601 => ?_)
        obtain rfl := h601.int
        refine WL.nil ?_
        exact hpost _ _ hc rfl _ (fun _ hd => by obtain rfl := Option.some.inj hd; exact ⟨rfl, trivial⟩)
      · intro Q ρ I1 H hI1 hk hpost
        obtain ⟨_, _, _, -⟩ := hk
        have hc := Mem.le.refl I1
        refine WL.on rfl rfl ?_
        refine ne rfl rfl rfl ?_
        refine WL.nil ?_
        exact hpost _ _ hc rfl _ (fun _ hd => by obtain rfl := Option.some.inj hd; exact ⟨rfl, trivial⟩)
      · intro Q ρ I1 H hI1 hk hpost
        obtain ⟨_, _, -⟩ := hk
        have hc := Mem.le.refl I1
        refine pkF rfl rfl rfl ?_
        refine WL.nil ?_
        exact hpost _ _ hc rfl _ (fun _ hd => by obtain rfl := Option.some.inj hd; exact ⟨rfl, trivial⟩)
      · intro Q ρ I1 H hI1 hk hpost
        obtain ⟨_, -⟩ := hk
        have hc := Mem.le.refl I1
        refine mv rfl rfl ?_
        refine WL.nil ?_
        exact hpost _ _ hc (bT k604) _ (fun _ hd => by obtain rfl := Option.some.inj hd; exact ⟨rfl, trivial⟩)
      · intro Q ρ I1 H hI1 hk hpost
        obtain ⟨_, -⟩ := hk
        have hc := Mem.le.refl I1
        refine WL.no rfl rfl rfl rfl ?_
        refine WL.nil ?_
        exact hpost _ _ hc rfl _ (fun _ hd => by obtain rfl := Option.some.inj hd; exact ⟨rfl, trivial⟩)
      · intro Q ρ I1 H hI1 hk hpost
        obtain ⟨_, -⟩ := hk
        have hc := Mem.le.refl I1
        refine WL.no rfl rfl rfl rfl ?_
        refine WL.nil ?_
        exact hpost _ _ hc rfl _ (fun _ hd => by obtain rfl := Option.some.inj hd; exact ⟨rfl, trivial⟩)
      · intro Q ρ I1 H hI1 hk hpost
        obtain ⟨_, _, -⟩ := hk
        have hc := Mem.le.refl I1
        refine pkT rfl rfl rfl ?_
        refine WL.nil ?_
        exact hpost _ _ hc rfl _ (fun _ hd => by obtain rfl := Option.some.inj hd; exact ⟨rfl, trivial⟩)
      rintro ρ J605 hJ606 -
      refine WX.sub (r := [(3, (.int .i64 p3)), (9, (.slice a139 x138.length c140)), (10, (.slice a136 x135.length c137)), (15, (.slice a297 (x280 ++ x288).length c298)), (213, (.bool true))]) ?_ ⟨rfl, rfl, rfl, rfl, rfl, trivial⟩
      refine WX.is (H := bl g519 #[(.int .i64 x511.Number), (.slice a516 x511.Records.length c517), (.int .i64 x511.Whole), (.bool x511.Sealed)] 56 :: OV 3 (.slice a136 x135.length c137) x135 :: G) rfl ?_
      have hI := hI.trans hJ606
      have lj590 := lj590.trans hJ606
      replace h269 := h269.up hJ606; replace h301 := h301.up hJ606; replace h518 := h518.up hJ606
      refine WX.front 1 ?_
      refine WX.del 1 ?_
      exact (kj590 true _ lj590 (Option.some.inj hj590)).sub ⟨rfl, rfl, rfl, rfl, rfl, trivial⟩
    refine WC.front 1 ?_
    refine WC.front 1 ?_
    refine WC.drawn mo (nthL [[], [0], [], [0, 1, 2], [0, 1, 2, 3], [0, 1, 2, 3, 4], [0, 1, 2, 3, 4, 5], [0, 1, 2, 3, 4, 5, 6], [0, 1, 2, 3, 4], [0, 1, 2, 3, 4, 8], [0, 1, 2, 3, 4, 5, 6, 7, 8, 9], [0, 1, 2, 3, 4, 5, 6, 7, 8, 9, 10], [0, 1, 2, 3, 4, 5, 6, 7, 8, 9, 10, 11], [0, 1, 2, 3, 4, 5, 6, 7, 8, 9, 10, 11, 12], [0, 1, 2, 3, 4, 5, 6, 7, 8, 9, 10, 11, 12, 13], [0, 1, 2, 3, 4, 5, 6, 7, 8, 9, 10, 11, 12], [0, 1, 2, 3, 4, 5, 6, 7, 8, 9, 10, 11, 12], [0, 1, 2, 3, 4, 5, 6, 7, 8, 9, 10, 11, 12, 16], [0, 1, 2, 3, 4, 5, 6, 7, 8, 9, 10, 11, 12, 15, 16, 17], [0, 1, 2, 3, 4, 5, 6, 7, 8, 9, 10, 11, 12, 15, 16, 17, 18], [0, 1, 2, 3, 4, 5, 6, 7, 8, 9, 10, 11, 12, 13, 14, 15, 16, 17, 18, 19], [0, 1, 2, 3, 4, 5, 6, 7, 8, 9, 10, 11, 12, 13, 14, 15, 16, 17, 18, 19, 20], [0, 1, 2, 3, 4, 5, 6, 7, 8, 9, 10, 11, 12, 13, 14, 15, 16, 17, 18, 19, 20, 21], [0, 1, 2, 3, 4, 5, 6, 7, 8, 9, 10, 11, 12, 13, 14, 15, 16, 17, 18, 19, 20, 21, 22], [0, 1, 2, 3, 4, 5, 6, 7, 8, 9, 10, 11, 12, 13, 14, 15, 16, 17, 18, 19, 20, 21, 22, 23], [0, 1, 2, 3, 4, 5, 6, 7, 8, 9, 10, 11, 12, 13, 14, 15, 16, 17, 18, 19, 20, 21, 22, 23, 24]]) (nthL [[], [0], [], [1, 2], [3], [4], [4, 5], [4, 6], [4], [4, 8], [4, 7, 9], [4, 10], [11], [12], [12, 13], [12], [12], [12, 16], [12, 15, 17], [12, 18], [12, 14, 19], [12, 20], [21], [22], [22, 23], [22, 24]]) (nthK [.val (.pointer (some ⟨g519, 0, none⟩)), .val (.int .i64 x511.Number), .val (.int .i64 (w64 (1 + x1))), .val (.bool (decide (x511.Number ≠ (w64 (1 + x1))))), .val (.bool false), .val (.pointer (some ⟨g519, 1, none⟩)), .val (.slice a516 x511.Records.length c517), .val (.int .i64 (x511.Records.length : Int)), .val (.int .i64 x480), .val (.int .i64 (w64 (x480 - 1))), .val (.bool (decide ((x511.Records.length : Int) ≠ (w64 (x480 - 1))))), .val (.bool (decide ((x511.Records.length : Int) ≠ (w64 (x480 - 1))))), .val (.bool false), .val (.pointer (some ⟨g519, 2, none⟩)), .val (.int .i64 x511.Whole), .val (.slice a136 x135.length c137), .val (.int .i64 x480), .val (.int .i64 (w64 (x480 - 1))), .of (fun v _ => At Int (.slice a136 x135.length c137) (w64 (x480 - 1) : Int).toNat v) (fun _ h => h), .val (.int .i64 z602), .val (.bool (decide (x511.Whole ≠ z602))), .val (.bool (decide (x511.Whole ≠ z602))), .val (.bool false), .val (.pointer (some ⟨g519, 3, none⟩)), .val (.bool x511.Sealed), .val (.bool x511.Sealed)]) [⟨none, none, [1, 6, 14, 24], [], fun _ => bl g519 #[(.int .i64 x511.Number), (.slice a516 x511.Records.length c517), (.int .i64 x511.Whole), (.bool x511.Sealed)] 56⟩, ⟨none, none, [18, 19], [], fun _ => OV 3 (.slice a136 x135.length c137) x135⟩] (by kernel_rfl) (by kernel_rfl) (by kernel_rfl) (H := G) rfl ⟨?_, ?_, ?_, ?_, ?_, ?_, ?_, ?_, ?_, ?_, ?_, ?_, ?_, ?_, ?_, ?_, ?_, ?_, ?_, ?_, ?_, ?_, ?_, ?_, ?_, ?_, trivial⟩ ?_
    · intro Q ρ I1 H hI1 hk hpost
      have hc := Mem.le.refl I1
      refine fa fl56_0 rfl rfl ?_
      refine WL.nil ?_
      exact hpost _ _ hc rfl _ (fun _ hd => by obtain rfl := Option.some.inj hd; exact ⟨rfl, trivial⟩)
    · intro Q ρ I1 H hI1 hk hpost
      obtain ⟨_, -⟩ := hk
      have hc := Mem.le.refl I1
      refine ld 0 na3 rfl rfl rfl rfl ?_
      refine WL.nil ?_
      exact hpost _ _ hc rfl _ (fun _ hd => by obtain rfl := Option.some.inj hd; exact ⟨rfl, trivial⟩)
    · intro Q ρ I1 H hI1 hk hpost
      have hc := Mem.le.refl I1
      refine mv rfl rfl ?_
      refine WL.nil ?_
      exact hpost _ _ hc rfl _ (fun _ hd => by obtain rfl := Option.some.inj hd; exact ⟨rfl, trivial⟩)
    · intro Q ρ I1 H hI1 hk hpost
      obtain ⟨_, _, -⟩ := hk
      have hc := Mem.le.refl I1
      refine ne rfl rfl rfl ?_
      refine WL.nil ?_
      exact hpost _ _ hc rfl _ (fun _ hd => by obtain rfl := Option.some.inj hd; exact ⟨rfl, trivial⟩)
    · intro Q ρ I1 H hI1 hk hpost
      obtain ⟨_, -⟩ := hk
      have hc := Mem.le.refl I1
      refine mv rfl rfl ?_
      refine WL.nil ?_
      exact hpost _ _ hc (bF k591) _ (fun _ hd => by obtain rfl := Option.some.inj hd; exact ⟨rfl, trivial⟩)
    · intro Q ρ I1 H hI1 hk hpost
      obtain ⟨_, -⟩ := hk
      have hc := Mem.le.refl I1
      refine WL.on rfl rfl ?_
      refine fa fl56_1 rfl rfl ?_
      refine WL.nil ?_
      exact hpost _ _ hc rfl _ (fun _ hd => by obtain rfl := Option.some.inj hd; exact ⟨rfl, trivial⟩)
    · intro Q ρ I1 H hI1 hk hpost
      obtain ⟨_, _, -⟩ := hk
      have hc := Mem.le.refl I1
      refine WL.on rfl rfl ?_
      refine ld 0 na37 rfl rfl rfl rfl ?_
      refine WL.nil ?_
      exact hpost _ _ hc rfl _ (fun _ hd => by obtain rfl := Option.some.inj hd; exact ⟨rfl, trivial⟩)
    · intro Q ρ I1 H hI1 hk hpost
      obtain ⟨_, _, -⟩ := hk
      replace h518 := h518.up hI1
      have hc := Mem.le.refl I1
      refine WL.on rfl rfl ?_
      refine ln et37 rfl (h518.rd) rfl ?_
      refine WL.nil ?_
      exact hpost _ _ hc rfl _ (fun _ hd => by obtain rfl := Option.some.inj hd; exact ⟨rfl, trivial⟩)
    · intro Q ρ I1 H hI1 hk hpost
      obtain ⟨_, -⟩ := hk
      have hc := Mem.le.refl I1
      refine WL.on rfl rfl ?_
      refine mv rfl rfl ?_
      refine WL.nil ?_
      exact hpost _ _ hc rfl _ (fun _ hd => by obtain rfl := Option.some.inj hd; exact ⟨rfl, trivial⟩)
    · intro Q ρ I1 H hI1 hk hpost
      obtain ⟨_, _, -⟩ := hk
      have hc := Mem.le.refl I1
      refine WL.on rfl rfl ?_
      refine su rfl rfl rfl ?_
      refine WL.nil ?_
      exact hpost _ _ hc rfl _ (fun _ hd => by obtain rfl := Option.some.inj hd; exact ⟨rfl, trivial⟩)
    · intro Q ρ I1 H hI1 hk hpost
      obtain ⟨_, _, _, -⟩ := hk
      have hc := Mem.le.refl I1
      refine WL.on rfl rfl ?_
      refine ne rfl rfl rfl ?_
      refine WL.nil ?_
      exact hpost _ _ hc rfl _ (fun _ hd => by obtain rfl := Option.some.inj hd; exact ⟨rfl, trivial⟩)
    · intro Q ρ I1 H hI1 hk hpost
      obtain ⟨_, _, -⟩ := hk
      have hc := Mem.le.refl I1
      refine pkF rfl rfl rfl ?_
      refine WL.nil ?_
      exact hpost _ _ hc rfl _ (fun _ hd => by obtain rfl := Option.some.inj hd; exact ⟨rfl, trivial⟩)
    · intro Q ρ I1 H hI1 hk hpost
      obtain ⟨_, -⟩ := hk
      have hc := Mem.le.refl I1
      refine mv rfl rfl ?_
      refine WL.nil ?_
      exact hpost _ _ hc (bF k594) _ (fun _ hd => by obtain rfl := Option.some.inj hd; exact ⟨rfl, trivial⟩)
    · intro Q ρ I1 H hI1 hk hpost
      obtain ⟨_, -⟩ := hk
      have hc := Mem.le.refl I1
      refine WL.on rfl rfl ?_
      refine fa fl56_2 rfl rfl ?_
      refine WL.nil ?_
      exact hpost _ _ hc rfl _ (fun _ hd => by obtain rfl := Option.some.inj hd; exact ⟨rfl, trivial⟩)
    · intro Q ρ I1 H hI1 hk hpost
      obtain ⟨_, _, -⟩ := hk
      have hc := Mem.le.refl I1
      refine WL.on rfl rfl ?_
      refine ld 0 na3 rfl rfl rfl rfl ?_
      refine WL.nil ?_
      exact hpost _ _ hc rfl _ (fun _ hd => by obtain rfl := Option.some.inj hd; exact ⟨rfl, trivial⟩)
    · intro Q ρ I1 H hI1 hk hpost
      obtain ⟨_, -⟩ := hk
      have hc := Mem.le.refl I1
      refine WL.on rfl rfl ?_
      refine mv rfl rfl ?_
      refine WL.nil ?_
      exact hpost _ _ hc rfl _ (fun _ hd => by obtain rfl := Option.some.inj hd; exact ⟨rfl, trivial⟩)
    · intro Q ρ I1 H hI1 hk hpost
      obtain ⟨_, -⟩ := hk
      have hc := Mem.le.refl I1
      refine WL.on rfl rfl ?_
      refine mv rfl rfl ?_
      refine WL.nil ?_
      exact hpost _ _ hc rfl _ (fun _ hd => by obtain rfl := Option.some.inj hd; exact ⟨rfl, trivial⟩)
    · intro Q ρ I1 H hI1 hk hpost
      obtain ⟨_, _, -⟩ := hk
      have hc := Mem.le.refl I1
      refine WL.on rfl rfl ?_
      refine su rfl rfl rfl ?_
      refine WL.nil ?_
      exact hpost _ _ hc rfl _ (fun _ hd => by obtain rfl := Option.some.inj hd; exact ⟨rfl, trivial⟩)
    · intro Q ρ I1 H hI1 hk hpost
      obtain ⟨_, _, _, -⟩ := hk
      have hc := Mem.le.refl I1
      refine WL.on rfl rfl ?_
      refine ixo 0 et59 rfl rfl rfl k597 rfl (fun uv598 h599 => ?_)
      refine WL.nil ?_
      exact hpost _ _ hc h599 _ (fun _ hd => by obtain rfl := Option.some.inj hd; exact ⟨rfl, trivial⟩)
    · intro Q ρ I1 H hI1 hk hpost
      obtain ⟨_, k18, -⟩ := hk
      have hc := Mem.le.refl I1
      refine WL.on rfl rfl ?_
      refine ldo (α := Int) 0 na3 rfl k18 rfl e603 rfl (fun uv600 h601 => ?_)
      obtain rfl := h601.int
      refine WL.nil ?_
      exact hpost _ _ hc rfl _ (fun _ hd => by obtain rfl := Option.some.inj hd; exact ⟨rfl, trivial⟩)
    · intro Q ρ I1 H hI1 hk hpost
      obtain ⟨_, _, _, -⟩ := hk
      have hc := Mem.le.refl I1
      refine WL.on rfl rfl ?_
      refine ne rfl rfl rfl ?_
      refine WL.nil ?_
      exact hpost _ _ hc rfl _ (fun _ hd => by obtain rfl := Option.some.inj hd; exact ⟨rfl, trivial⟩)
    · intro Q ρ I1 H hI1 hk hpost
      obtain ⟨_, _, -⟩ := hk
      have hc := Mem.le.refl I1
      refine pkF rfl rfl rfl ?_
      refine WL.nil ?_
      exact hpost _ _ hc rfl _ (fun _ hd => by obtain rfl := Option.some.inj hd; exact ⟨rfl, trivial⟩)
    · intro Q ρ I1 H hI1 hk hpost
      obtain ⟨_, -⟩ := hk
      have hc := Mem.le.refl I1
      refine mv rfl rfl ?_
      refine WL.nil ?_
      exact hpost _ _ hc (bF k604) _ (fun _ hd => by obtain rfl := Option.some.inj hd; exact ⟨rfl, trivial⟩)
    · intro Q ρ I1 H hI1 hk hpost
      obtain ⟨_, -⟩ := hk
      have hc := Mem.le.refl I1
      refine WL.on rfl rfl ?_
      refine fa fl56_3 rfl rfl ?_
      refine WL.nil ?_
      exact hpost _ _ hc rfl _ (fun _ hd => by obtain rfl := Option.some.inj hd; exact ⟨rfl, trivial⟩)
    · intro Q ρ I1 H hI1 hk hpost
      obtain ⟨_, _, -⟩ := hk
      have hc := Mem.le.refl I1
      refine WL.on rfl rfl ?_
      refine ld 0 na4 rfl rfl rfl rfl ?_
      refine WL.nil ?_
      exact hpost _ _ hc rfl _ (fun _ hd => by obtain rfl := Option.some.inj hd; exact ⟨rfl, trivial⟩)
    · intro Q ρ I1 H hI1 hk hpost
      obtain ⟨_, _, -⟩ := hk
      have hc := Mem.le.refl I1
      refine pkF rfl rfl rfl ?_
      refine WL.nil ?_
      exact hpost _ _ hc rfl _ (fun _ hd => by obtain rfl := Option.some.inj hd; exact ⟨rfl, trivial⟩)
    rintro ρ J607 hJ608 -
    refine WX.sub (r := [(3, (.int .i64 p3)), (9, (.slice a139 x138.length c140)), (10, (.slice a136 x135.length c137)), (15, (.slice a297 (x280 ++ x288).length c298)), (213, (.bool x511.Sealed))]) ?_ ⟨rfl, rfl, rfl, rfl, rfl, trivial⟩
    refine WX.is (H := bl g519 #[(.int .i64 x511.Number), (.slice a516 x511.Records.length c517), (.int .i64 x511.Whole), (.bool x511.Sealed)] 56 :: OV 3 (.slice a136 x135.length c137) x135 :: G) rfl ?_
    have hI := hI.trans hJ608
    have lj590 := lj590.trans hJ608
    replace h269 := h269.up hJ608; replace h301 := h301.up hJ608; replace h518 := h518.up hJ608
    refine WX.front 1 ?_
    refine WX.del 1 ?_
    exact (kj590 x511.Sealed _ lj590 (Option.some.inj hj590)).sub ⟨rfl, rfl, rfl, rfl, rfl, trivial⟩
  rintro x589 J609 hJ610 rfl
  have hI := hI.trans hJ610
  replace h269 := h269.up hJ610; replace h301 := h301.up hJ610
  refine WX.then_ ?_
  refine WC.iteb rfl h (fun k611 h => ?_) (fun k611 h => ?_)
  · skip
    refine WC.seq ?_
    refine WC.region ?_
    refine asg rfl rfl ?_
    refine WL.del 0 ?_
    refine WL.next ?_
    refine WC.ret ?_
    refine WX.then_ret ?_
    cases h
    exact ret1 Try.results10 rfl hI ⟨rfl, rfl⟩
  refine WC.skip ?_
  refine WX.then_ ?_
  refine WC.seq ?_
  refine WC.region ?_
  refine mv rfl rfl ?_
  refine mv rfl rfl ?_
  refine ln et59 rfl (OV.rd 0 rfl) rfl ?_
  obtain ⟨x612, e613, h⟩ := bnd h
  refine call cl19 rfl rfl (W19 e613) (fun _ J614 _ hJ615 q616 => ?_)
  have hI := hI.trans hJ615
  replace h269 := h269.up hJ615; replace h301 := h301.up hJ615
  obtain ⟨rfl, rfl⟩ := q616
  refine asg rfl rfl ?_
  refine asg rfl rfl ?_
  refine WL.next ?_
  refine WC.seq ?_
  refine WC.seq ?_
  refine WC.region ?_
  refine mv rfl rfl ?_
  refine gt rfl rfl rfl ?_
  refine WL.next ?_
  obtain ⟨j626, hj626, h⟩ := bnd h
  refine WC.joinQ (σ := Int) (fun x625 => [(3, (.int .i64 p3)), (9, (.slice a139 x138.length c140)), (10, (.slice a136 x135.length c137)), (15, (.slice a297 (x280 ++ x288).length c298)), (20, (.int .i64 x612)), (21, (.int .i64 x625))]) (fun x625 => OV 3 (.slice a136 x135.length c137) x135 :: G) (fun x625 J => x625 = j626) (fun kj626 => ?_) ?_
  · skip
    have lj626 := Mem.le.refl J614
    refine WC.ite rfl hj626 (fun k627 hj626 => ?_) (fun k627 hj626 => ?_)
    · skip
      refine WC.region ?_
      refine mv rfl rfl ?_
      refine mv rfl rfl ?_
      refine su rfl rfl rfl ?_
      obtain ⟨k628, hj626⟩ := chk hj626
      refine ixo 0 et59 rfl rfl rfl k628 rfl (fun uv629 h630 => ?_)
      obtain ⟨z633, e634, hj626⟩ := bnd hj626
      refine ldo (α := Int) 0 na3 rfl h630 rfl e634 rfl (fun uv631 h632 => ?_)
      obtain rfl := h632.int
      refine asg rfl rfl ?_
      refine WL.nil ?_
      exact (kj626 z633 _ lj626 (Option.some.inj hj626)).sub ⟨rfl, rfl, rfl, rfl, rfl, rfl, trivial⟩
    refine WC.skip ?_
    exact (kj626 0 _ lj626 (Option.some.inj hj626)).sub ⟨rfl, rfl, rfl, rfl, rfl, rfl, trivial⟩
  rintro x625 J635 hJ636 rfl
  have hI := hI.trans hJ636
  replace h269 := h269.up hJ636; replace h301 := h301.up hJ636
  refine WX.then_ ?_
  refine WC.seq ?_
  refine WC.region ?_
  refine mv rfl rfl ?_
  refine mv rfl rfl ?_
  obtain ⟨y637, e638, h⟩ := bnd h
  refine cti (kl := .i64) (kh := .i64) et22 rfl h269 (.inr ⟨_, rfl, rfl, rfl⟩) (.inl ⟨rfl, rfl, rfl⟩) e638 rfl (fun a639 c640 h641 => ?_)
  obtain ⟨⟨x642, x643, x644⟩, e645, h⟩ := bnd h
  refine call cl45 rfl rfl (W45 e645 h641) (fun _ J646 _ hJ647 q648 => ?_)
  have hI := hI.trans hJ647
  replace h269 := h269.up hJ647; replace h301 := h301.up hJ647; replace h641 := h641.up hJ647
  obtain ⟨rfl, rfl⟩ := q648
  refine mv rfl rfl ?_
  refine ex rfl rfl rfl ?_
  refine ex rfl rfl rfl ?_
  refine ex rfl rfl rfl ?_
  refine asg rfl rfl ?_
  refine asg rfl rfl ?_
  refine asg rfl rfl ?_
  refine WL.next ?_
  refine WC.seq ?_
  refine WC.seq ?_
  obtain ⟨j666, hj666, h⟩ := bnd h
  refine WC.joinQ (σ := Bool) (fun x665 => [(3, (.int .i64 p3)), (10, (.slice a136 x135.length c137)), (15, (.slice a297 (x280 ++ x288).length c298)), (20, (.int .i64 x612)), (21, (.int .i64 x625)), (23, (.int .i64 x643)), (245, (.bool x665))]) (fun x665 => OV 3 (.slice a136 x135.length c137) x135 :: G) (fun x665 J => x665 = j666) (fun kj666 => ?_) ?_
  · skip
    have lj666 := Mem.le.refl J646
    refine WC.region ?_
    refine mv rfl rfl ?_
    refine nt rfl rfl ?_
    refine mv rfl rfl ?_
    rcases spl hj666 with ⟨k667, hj666⟩ | ⟨k667, hj666⟩
    · skip
      refine WL.rb 235 rfl (bt1n k667) ?_
      refine WL.on rfl rfl ?_
      refine mv rfl rfl ?_
      refine WL.on rfl rfl ?_
      refine mv rfl rfl ?_
      refine WL.on rfl rfl ?_
      obtain ⟨k668, hj666⟩ := chk hj666
      refine ixo 0 et59 rfl rfl rfl k668 rfl (fun uv669 h670 => ?_)
      refine WL.on rfl rfl ?_
      obtain ⟨z673, e674, hj666⟩ := bnd hj666
      refine ldo (α := Int) 0 na3 rfl h670 rfl e674 rfl (fun uv671 h672 => ?_)
      obtain rfl := h672.int
      refine WL.on rfl rfl ?_
      refine mv rfl rfl ?_
      refine WL.on rfl rfl ?_
      refine su rfl rfl rfl ?_
      refine WL.on rfl rfl ?_
      refine mv rfl rfl ?_
      refine WL.on rfl rfl ?_
      refine su rfl rfl rfl ?_
      refine WL.on rfl rfl ?_
      refine lt rfl rfl rfl ?_
      refine pkF rfl rfl rfl ?_
      refine WL.nil ?_
      exact (kj666 (decide ((w64 ((w64 (z673 - x625)) - x643)) < 1)) _ lj666 (Option.some.inj hj666)).sub ⟨rfl, rfl, rfl, rfl, rfl, rfl, rfl, trivial⟩
    refine WL.rb 235 rfl (bf1n k667) ?_
    refine WL.no rfl rfl rfl rfl ?_
    refine WL.no rfl rfl rfl rfl ?_
    refine WL.no rfl rfl rfl rfl ?_
    refine WL.no rfl rfl rfl rfl ?_
    refine WL.no rfl rfl rfl rfl ?_
    refine WL.no rfl rfl rfl rfl ?_
    refine WL.no rfl rfl rfl rfl ?_
    refine WL.no rfl rfl rfl rfl ?_
    refine WL.no rfl rfl rfl rfl ?_
    refine pkT rfl rfl rfl ?_
    refine WL.nil ?_
    exact (kj666 true _ lj666 (Option.some.inj hj666)).sub ⟨rfl, rfl, rfl, rfl, rfl, rfl, rfl, trivial⟩
  rintro x665 J675 hJ676 rfl
  have hI := hI.trans hJ676
  replace h301 := h301.up hJ676
  refine WX.then_ ?_
  refine WC.iteb rfl h (fun k677 h => ?_) (fun k677 h => ?_)
  · skip
    refine WC.seq ?_
    refine WC.region ?_
    refine asg rfl rfl ?_
    refine WL.del 0 ?_
    refine WL.next ?_
    refine WC.ret ?_
    refine WX.then_ret ?_
    cases h
    exact ret1 Try.results10 rfl hI ⟨rfl, rfl⟩
  refine WC.skip ?_
  refine WX.then_ ?_
  refine WC.seq ?_
  refine WC.region ?_
  refine mv rfl rfl ?_
  obtain ⟨x678, e679, h⟩ := bnd h
  refine call cl43 rfl rfl (W43 e679 h301) (fun _ J680 _ hJ681 q682 => ?_)
  have hI := hI.trans hJ681
  replace h301 := h301.up hJ681
  obtain ⟨a683, c684, rfl, rfl⟩ := q682
  refine asg rfl rfl ?_
  refine WL.next ?_
  refine WC.seq ?_
  refine WC.region ?_
  refine mv rfl rfl ?_
  refine mv rfl rfl ?_
  refine ad rfl rfl rfl ?_
  refine mu rfl rfl rfl ?_
  refine mv rfl rfl ?_
  refine qu (by decide) rfl rfl rfl ?_
  refine mv rfl rfl ?_
  refine mv rfl rfl ?_
  obtain ⟨k686, h⟩ := chk h
  refine ixo 1 et59 rfl rfl rfl k686 rfl (fun uv687 h688 => ?_)
  obtain ⟨z691, e692, h⟩ := bnd h
  refine ldo (α := Int) 1 na3 rfl h688 rfl e692 rfl (fun uv689 h690 => ?_)
  obtain rfl := h690.int
  refine mv rfl rfl ?_
  refine su rfl rfl rfl ?_
  refine mv rfl rfl ?_
  refine su rfl rfl rfl ?_
  refine mu rfl rfl rfl ?_
  obtain ⟨x693, e694, h⟩ := bnd h
  refine WL.re (congrArg (Value.int .i64) (Option.some.inj e694)) ?_
  obtain ⟨x695, e696, h⟩ := bnd h
  refine call cl19 rfl rfl (W19 e696) (fun _ J697 _ hJ698 q699 => ?_)
  have hI := hI.trans hJ698
  obtain ⟨rfl, rfl⟩ := q699
  refine ad rfl rfl rfl ?_
  obtain ⟨x700, e701, h⟩ := bnd h
  refine WL.re (congrArg (Value.int .i64) (Option.some.inj e701)) ?_
  refine asg rfl rfl ?_
  refine WL.del 1 ?_
  refine WL.next ?_
  refine WC.seq ?_
  refine WC.region ?_
  refine mv rfl rfl ?_
  refine mv rfl rfl ?_
  refine qu (by decide) rfl rfl rfl ?_
  obtain ⟨k702, h⟩ := chk h
  refine ixo 0 et22 rfl rfl rfl k702 rfl (fun uv703 h704 => ?_)
  obtain ⟨z707, e708, h⟩ := bnd h
  refine ldo (α := UInt8) 0 na5 rfl h704 rfl e708 rfl (fun uv705 h706 => ?_)
  obtain rfl := h706.u8
  refine mv rfl rfl ?_
  refine re (by decide) rfl rfl rfl ?_
  refine cv64 Try.underlying3 Try.underlying62 rfl rfl ?_
  refine slb (a := (1 : UInt8)) (Int.natCast_nonneg _) rfl rfl rfl rfl ?_
  refine xor8 (a := z707) (b := (sl8 (1 : UInt8) ((u64of ((x700).tmod 8)).toNat : Int))) rfl rfl rfl rfl rfl ?_
  obtain ⟨k709, h⟩ := chk h
  refine ixo 0 et22 rfl rfl rfl k709 rfl (fun uv710 h711 => ?_)
  obtain ⟨x712, e713, h⟩ := bnd h
  refine sto2 (α := UInt8) (z := (z707 ^^^ (sl8 (1 : UInt8) ((u64of ((x700).tmod 8)).toNat : Int)))) sz5 rfl rfl h711 (ilt k709) (Rv.of_u8 _ (z707 ^^^ (sl8 (1 : UInt8) ((u64of ((x700).tmod 8)).toNat : Int)))) (Option.some.inj e713) ?_
  refine WL.rb 25 rfl (u := (.slice a683 x712.length c684)) (by rw [← Option.some.inj e713, List.length_set]) ?_
  refine WL.rb 265 rfl (u := (.slice a683 x712.length c684)) (by rw [← Option.some.inj e713, List.length_set]) ?_
  refine WL.next ?_
  refine WC.seq ?_
  refine WC.region ?_
  refine mv rfl rfl ?_
  refine WL.freeze (fun J714 hJ715 h716 => ?_)
  have hI := hI.trans hJ715
  obtain ⟨x717, e718, h⟩ := bnd h
  refine call cl44 rfl rfl (W44 e718 h716) (fun _ J719 _ hJ720 q721 => ?_)
  have hI := hI.trans hJ720
  replace h716 := h716.up hJ720
  obtain ⟨a722, c723, rfl, h724, rfl⟩ := q721
  refine al Try.zeroValue56 rfl (fun g725 => ?_)
  refine sta (C' := #[(.int .i64 x717.Number), (.slice a722 x717.Records.length c723), (.int .i64 x717.Whole), (.bool x717.Sealed)]) sz56 rfl rfl rfl rfl rfl rfl ?_
  refine WL.next ?_
  refine WC.seq ?_
  refine WC.region ?_
  refine fa fl56_3 rfl rfl ?_
  refine ld 0 na4 rfl rfl rfl rfl ?_
  refine nt rfl rfl ?_
  refine mv rfl rfl ?_
  rcases spl h with ⟨k727, h⟩ | ⟨k727, h⟩
  · skip
    refine WL.rb 281 rfl (bt1n k727) ?_
    refine WL.no rfl rfl rfl rfl ?_
    refine WL.no rfl rfl rfl rfl ?_
    refine WL.no rfl rfl rfl rfl ?_
    refine WL.no rfl rfl rfl rfl ?_
    refine WL.no rfl rfl rfl rfl ?_
    refine WL.no rfl rfl rfl rfl ?_
    refine WL.no rfl rfl rfl rfl ?_
    refine pkF rfl rfl rfl ?_
    refine mv rfl rfl ?_
    refine WL.no rfl rfl rfl rfl ?_
    refine WL.no rfl rfl rfl rfl ?_
    refine WL.no rfl rfl rfl rfl ?_
    refine WL.no rfl rfl rfl rfl ?_
    refine WL.no rfl rfl rfl rfl ?_
    refine WL.no rfl rfl rfl rfl ?_
    refine pkF rfl rfl rfl ?_
    refine mv rfl rfl ?_
    refine WL.no rfl rfl rfl rfl ?_
    refine WL.no rfl rfl rfl rfl ?_
    refine WL.no rfl rfl rfl rfl ?_
    refine WL.no rfl rfl rfl rfl ?_
    refine pkF rfl rfl rfl ?_
    refine mv rfl rfl ?_
    refine WL.no rfl rfl rfl rfl ?_
    refine pkF rfl rfl rfl ?_
    refine asg rfl rfl ?_
    refine WL.del 0 ?_
    refine WL.next ?_
    refine WC.ret ?_
    cases h
    exact ret1 Try.results10 rfl hI ⟨rfl, rfl⟩
  refine WL.rb 281 rfl (bf1n k727) ?_
  refine WL.on rfl rfl ?_
  refine fa fl56_1 rfl rfl ?_
  refine WL.on rfl rfl ?_
  refine ld 0 na37 rfl rfl rfl rfl ?_
  refine WL.on rfl rfl ?_
  refine ln et37 rfl (h724.rd) rfl ?_
  refine WL.on rfl rfl ?_
  refine mv rfl rfl ?_
  refine WL.on rfl rfl ?_
  refine su rfl rfl rfl ?_
  refine WL.on rfl rfl ?_
  refine mx rfl rfl rfl ?_
  obtain ⟨x728, e729, h⟩ := bnd h
  refine WL.re (congrArg (Value.int .i64) (Option.some.inj e729)) ?_
  refine WL.on rfl rfl ?_
  refine eq rfl rfl rfl ?_
  refine pkT rfl rfl rfl ?_
  refine mv rfl rfl ?_
  rcases spl h with ⟨k730, h⟩ | ⟨k730, h⟩
  · skip
    refine WL.rb 290 rfl (bT k730) ?_
    refine WL.on rfl rfl ?_
    refine mv rfl rfl ?_
    refine WL.on rfl rfl ?_
    refine eq rfl rfl rfl ?_
    refine WL.on rfl rfl ?_
    refine fa fl56_0 rfl rfl ?_
    refine WL.on rfl rfl ?_
    refine ld 0 na3 rfl rfl rfl rfl ?_
    refine WL.on rfl rfl ?_
    refine eq rfl rfl rfl ?_
    refine WL.on rfl rfl ?_
    refine be Try.underlying4 rfl rfl rfl ?_
    refine pkT rfl rfl rfl ?_
    refine mv rfl rfl ?_
    rcases spl h with ⟨k731, h⟩ | ⟨k731, h⟩
    · skip
      refine WL.rb 298 rfl (bt1 k731) ?_
      refine WL.on rfl rfl ?_
      refine fa fl56_2 rfl rfl ?_
      refine WL.on rfl rfl ?_
      refine ld 0 na3 rfl rfl rfl rfl ?_
      refine WL.on rfl rfl ?_
      refine mv rfl rfl ?_
      refine WL.on rfl rfl ?_
      refine eq rfl rfl rfl ?_
      refine pkT rfl rfl rfl ?_
      refine mv rfl rfl ?_
      rcases spl h with ⟨k732, h⟩ | ⟨k732, h⟩
      · skip
        refine WL.rb 304 rfl (bT k732) ?_
        refine WL.on rfl rfl ?_
        obtain ⟨x733, e734, h⟩ := bnd h
        refine call cl42 rfl rfl (W42 e734) (fun _ J735 _ hJ736 q737 => ?_)
        have hI := hI.trans hJ736
        replace h724 := h724.up hJ736
        obtain ⟨rfl, rfl⟩ := q737
        refine pkT rfl rfl rfl ?_
        refine asg rfl rfl ?_
        refine WL.del 0 ?_
        refine WL.next ?_
        refine WC.ret ?_
        cases h
        exact ret1 Try.results10 rfl hI ⟨rfl, rfl⟩
      refine WL.rb 304 rfl (bF k732) ?_
      refine WL.no rfl rfl rfl rfl ?_
      refine pkF rfl rfl rfl ?_
      refine asg rfl rfl ?_
      refine WL.del 0 ?_
      refine WL.next ?_
      refine WC.ret ?_
      cases h
      exact ret1 Try.results10 rfl hI ⟨rfl, rfl⟩
    refine WL.rb 298 rfl (bf1 k731) ?_
    refine WL.no rfl rfl rfl rfl ?_
    refine WL.no rfl rfl rfl rfl ?_
    refine WL.no rfl rfl rfl rfl ?_
    refine WL.no rfl rfl rfl rfl ?_
    refine pkF rfl rfl rfl ?_
    refine mv rfl rfl ?_
    refine WL.no rfl rfl rfl rfl ?_
    refine pkF rfl rfl rfl ?_
    refine asg rfl rfl ?_
    refine WL.del 0 ?_
    refine WL.next ?_
    refine WC.ret ?_
    cases h
    exact ret1 Try.results10 rfl hI ⟨rfl, rfl⟩
  refine WL.rb 290 rfl (bF k730) ?_
  refine WL.no rfl rfl rfl rfl ?_
  refine WL.no rfl rfl rfl rfl ?_
  refine WL.no rfl rfl rfl rfl ?_
  refine WL.no rfl rfl rfl rfl ?_
  refine WL.no rfl rfl rfl rfl ?_
  refine WL.no rfl rfl rfl rfl ?_
  refine pkF rfl rfl rfl ?_
  refine mv rfl rfl ?_
  refine WL.no rfl rfl rfl rfl ?_
  refine WL.no rfl rfl rfl rfl ?_
  refine WL.no rfl rfl rfl rfl ?_
  refine WL.no rfl rfl rfl rfl ?_
  refine pkF rfl rfl rfl ?_
  refine mv rfl rfl ?_
  refine WL.no rfl rfl rfl rfl ?_
  refine pkF rfl rfl rfl ?_
  refine asg rfl rfl ?_
  refine WL.del 0 ?_
  refine WL.next ?_
  refine WC.ret ?_
  cases h
  exact ret1 Try.results10 rfl hI ⟨rfl, rfl⟩
theorem W73 {I : Mem} {G : List Asn} {p0 : span_Reader} {r : UInt8 × span_Reader} (h : span_Reader_Byte p0 = some r) {g0 : Nat} :
    CallsS Try.prog 73 #[.pointer (some ⟨g0, 0, none⟩)] I (Ob_span_Reader g0 p0 :: G) (fun v J G' => v = .int .u8 (r.1.toNat : Int) ∧ Ob_span_Reader g0 (r.2) :: G = G') := by
  refine CallsS.enter Try.func73 rfl Try.ntmps73 rfl (fun w0 => ?_)
  have hI := Mem.le.refl I
  unfold span_Reader_Byte at h
  refine WC.seq ?_
  refine WC.region ?_
  refine asg rfl rfl ?_
  refine WL.next ?_
  refine WC.seq ?_
  refine WC.seq ?_
  obtain ⟨j24, hj24, h⟩ := bnd h
  refine WC.joinQ (σ := span_Reader × Bool) (fun (s22, x23) => [(0, (.pointer (some ⟨g0, 0, none⟩))), (11, (.bool x23))]) (fun (s22, x23) => Ob_span_Reader g0 s22 :: G) (fun (s22, x23) J => (s22, x23) = j24) (fun kj24 => ?_) ?_
  · skip
    have lj24 := Mem.le.refl I
    refine WC.region ?_
    refine mv rfl rfl ?_
    refine nc rfl rfl ?_
    refine fa fl94_2 rfl rfl ?_
    refine WL.open_span_Reader (fun a25 c26 h27 => ?_)
    refine ld 0 na4 rfl rfl rfl rfl ?_
    refine mv rfl rfl ?_
    rcases spl hj24 with ⟨k28, hj24⟩ | ⟨k28, hj24⟩
    · skip
      refine WL.rb 7 rfl (bt1 k28) ?_
      refine WL.no rfl rfl rfl rfl ?_
      refine WL.no rfl rfl rfl rfl ?_
      refine WL.no rfl rfl rfl rfl ?_
      refine pkT rfl rfl rfl ?_
      refine WL.nil ?_
      refine WX.shut_span_Reader (⟨p0.b_, p0.at_, p0.bad_⟩ : span_Reader) h27 ?_
      exact (kj24 ⟨(⟨p0.b_, p0.at_, p0.bad_⟩ : span_Reader), true⟩ _ lj24 (Option.some.inj hj24)).sub ⟨rfl, rfl, trivial⟩
    refine WL.rb 7 rfl (bf1 k28) ?_
    refine WL.on rfl rfl ?_
    refine mv rfl rfl ?_
    refine WL.on rfl rfl ?_
    refine WL.shut_span_Reader (⟨p0.b_, p0.at_, p0.bad_⟩ : span_Reader) h27 ?_
    obtain ⟨⟨x29, s30⟩, e31, hj24⟩ := bnd hj24
    refine call cl48 rfl rfl (W48 e31) (fun _ J32 _ hJ33 q34 => ?_)
    have hI := hI.trans hJ33
    have lj24 := lj24.trans hJ33
    obtain ⟨rfl, rfl⟩ := q34
    refine WL.on rfl rfl ?_
    refine eq rfl rfl rfl ?_
    refine pkF rfl rfl rfl ?_
    refine WL.nil ?_
    exact (kj24 ⟨s30, (decide (x29 = 0))⟩ _ lj24 (Option.some.inj hj24)).sub ⟨rfl, rfl, trivial⟩
  rintro ⟨s22, x23⟩ J35 hJ36 rfl
  have hI := hI.trans hJ36
  refine WX.then_ ?_
  refine WC.iteb rfl h (fun k37 h => ?_) (fun k37 h => ?_)
  · skip
    refine WC.seq ?_
    refine WC.region ?_
    refine mv rfl rfl ?_
    refine nc rfl rfl ?_
    refine fa fl94_2 rfl rfl ?_
    refine WL.open_span_Reader (fun a38 c39 h40 => ?_)
    refine st (C' := #[(.slice a38 s22.b_.length c39), (.int .i64 s22.at_), (.bool true)]) sz4 rfl rfl rfl rfl rfl ?_
    refine WL.next ?_
    refine WC.seq ?_
    refine WC.region ?_
    refine asg rfl rfl ?_
    refine WL.next ?_
    refine WC.ret ?_
    refine WX.then_ret ?_
    refine WX.shut_span_Reader (⟨s22.b_, s22.at_, true⟩ : span_Reader) h40 ?_
    cases h
    exact ret1 Try.results73 rfl hI ⟨rfl, rfl⟩
  refine WC.skip ?_
  refine WX.then_ ?_
  refine WC.seq ?_
  refine WC.region ?_
  refine mv rfl rfl ?_
  refine nc rfl rfl ?_
  refine fa fl94_1 rfl rfl ?_
  refine WL.open_span_Reader (fun a41 c42 h43 => ?_)
  refine ld 0 na3 rfl rfl rfl rfl ?_
  refine ad rfl rfl rfl ?_
  refine nc rfl rfl ?_
  refine fa fl94_1 rfl rfl ?_
  refine st (C' := #[(.slice a41 s22.b_.length c42), (.int .i64 (w64 (s22.at_ + 1))), (.bool s22.bad_)]) sz3 rfl rfl rfl rfl rfl ?_
  refine WL.next ?_
  refine WC.seq ?_
  refine WC.sub (r := [(0, (.pointer (some ⟨g0, 0, none⟩)))]) ?_ ⟨rfl, trivial⟩
  obtain ⟨z44, e45, h⟩ := bnd h
  refine WC.drawn mo (nthL [[], [0], [0, 1], [0, 1, 2], [], [4], [4, 5], [4, 5, 6], [4, 5, 6, 7], [0, 1, 2, 3, 4, 5, 6, 7, 8], [0, 1, 2, 3, 4, 5, 6, 7, 8, 9], [0, 1, 2, 3, 4, 5, 6, 7, 8, 9, 10]]) (nthL [[], [0], [1], [2], [], [4], [5], [6], [7], [3, 8], [9], [10]]) (nthK [.val (.pointer (some ⟨g0, 0, none⟩)), .val (.pointer (some ⟨g0, 0, none⟩)), .val (.pointer (some ⟨g0, 0, none⟩)), .val (.slice a41 s22.b_.length c42), .val (.pointer (some ⟨g0, 0, none⟩)), .val (.pointer (some ⟨g0, 0, none⟩)), .val (.pointer (some ⟨g0, 1, none⟩)), .val (.int .i64 (w64 (s22.at_ + 1))), .val (.int .i64 (w64 ((w64 (s22.at_ + 1)) - 1))), .ip z44, .val (.int .u8 (z44.toNat : Int)), .val (.int .u8 (z44.toNat : Int))]) [⟨none, none, [3, 7], [], fun _ => bl g0 #[(.slice a41 s22.b_.length c42), (.int .i64 (w64 (s22.at_ + 1))), (.bool s22.bad_)] 94⟩] (by kernel_rfl) (by kernel_rfl) (by kernel_rfl) (H := G) rfl ⟨?_, ?_, ?_, ?_, ?_, ?_, ?_, ?_, ?_, ?_, ?_, ?_, trivial⟩ ?_
  · intro Q ρ I1 H hI1 hk hpost
    have hc := Mem.le.refl I1
    refine mv rfl rfl ?_
    refine WL.nil ?_
    exact hpost _ _ hc rfl _ (fun _ hd => by obtain rfl := Option.some.inj hd; exact ⟨rfl, trivial⟩)
  · intro Q ρ I1 H hI1 hk hpost
    obtain ⟨_, -⟩ := hk
    have hc := Mem.le.refl I1
    refine nc rfl rfl ?_
    refine WL.nil ?_
    exact hpost _ _ hc rfl _ (fun _ hd => by obtain rfl := Option.some.inj hd; exact ⟨rfl, trivial⟩)
  · intro Q ρ I1 H hI1 hk hpost
    obtain ⟨_, -⟩ := hk
    have hc := Mem.le.refl I1
    refine fa fl94_0 rfl rfl ?_
    refine WL.nil ?_
    exact hpost _ _ hc rfl _ (fun _ hd => by obtain rfl := Option.some.inj hd; exact ⟨rfl, trivial⟩)
  · intro Q ρ I1 H hI1 hk hpost
    obtain ⟨_, -⟩ := hk
    have hc := Mem.le.refl I1
    refine ld 0 na22 rfl rfl rfl rfl ?_
    refine WL.nil ?_
    exact hpost _ _ hc rfl _ (fun _ hd => by obtain rfl := Option.some.inj hd; exact ⟨rfl, trivial⟩)
  · intro Q ρ I1 H hI1 hk hpost
    have hc := Mem.le.refl I1
    refine mv rfl rfl ?_
    refine WL.nil ?_
    exact hpost _ _ hc rfl _ (fun _ hd => by obtain rfl := Option.some.inj hd; exact ⟨rfl, trivial⟩)
  · intro Q ρ I1 H hI1 hk hpost
    obtain ⟨_, -⟩ := hk
    have hc := Mem.le.refl I1
    refine nc rfl rfl ?_
    refine WL.nil ?_
    exact hpost _ _ hc rfl _ (fun _ hd => by obtain rfl := Option.some.inj hd; exact ⟨rfl, trivial⟩)
  · intro Q ρ I1 H hI1 hk hpost
    obtain ⟨_, -⟩ := hk
    have hc := Mem.le.refl I1
    refine fa fl94_1 rfl rfl ?_
    refine WL.nil ?_
    exact hpost _ _ hc rfl _ (fun _ hd => by obtain rfl := Option.some.inj hd; exact ⟨rfl, trivial⟩)
  · intro Q ρ I1 H hI1 hk hpost
    obtain ⟨_, -⟩ := hk
    have hc := Mem.le.refl I1
    refine ld 0 na3 rfl rfl rfl rfl ?_
    refine WL.nil ?_
    exact hpost _ _ hc rfl _ (fun _ hd => by obtain rfl := Option.some.inj hd; exact ⟨rfl, trivial⟩)
  · intro Q ρ I1 H hI1 hk hpost
    obtain ⟨_, -⟩ := hk
    have hc := Mem.le.refl I1
    refine su rfl rfl rfl ?_
    refine WL.nil ?_
    exact hpost _ _ hc rfl _ (fun _ hd => by obtain rfl := Option.some.inj hd; exact ⟨rfl, trivial⟩)
  · intro Q ρ I1 H hI1 hk hpost
    obtain ⟨_, _, -⟩ := hk
    replace h43 := h43.up hI1
    have hc := Mem.le.refl I1
    refine ixi et22 rfl rfl h43 e45 rfl (fun uv46 h47 => ?_)
    refine WL.nil ?_
    exact hpost _ _ hc h47 _ (fun _ hd => by obtain rfl := Option.some.inj hd; exact ⟨rfl, trivial⟩)
  · intro Q ρ I1 H hI1 hk hpost
    obtain ⟨k9, -⟩ := hk
    have hc := Mem.le.refl I1
    refine ldi (α := UInt8) na5 rfl k9 rfl (fun uv48 h49 => ?_)
    obtain rfl := h49.u8
    refine WL.nil ?_
    exact hpost _ _ hc rfl _ (fun _ hd => by obtain rfl := Option.some.inj hd; exact ⟨rfl, trivial⟩)
  · intro Q ρ I1 H hI1 hk hpost
    obtain ⟨_, -⟩ := hk
    have hc := Mem.le.refl I1
    refine asg rfl rfl ?_
    refine WL.nil ?_
    exact hpost _ _ hc rfl _ (fun _ hd => by obtain rfl := Option.some.inj hd; exact ⟨rfl, trivial⟩)
  rintro ρ J50 hJ51 -
  refine WX.sub (r := [(2, (.int .u8 (z44.toNat : Int)))]) ?_ ⟨rfl, trivial⟩
  refine WX.is (H := bl g0 #[(.slice a41 s22.b_.length c42), (.int .i64 (w64 (s22.at_ + 1))), (.bool s22.bad_)] 94 :: G) rfl ?_
  have hI := hI.trans hJ51
  replace h43 := h43.up hJ51
  refine WX.then_ ?_
  refine WC.ret ?_
  refine WX.shut_span_Reader (⟨s22.b_, w64 (s22.at_ + 1), s22.bad_⟩ : span_Reader) h43 ?_
  cases h
  exact ret1 Try.results73 rfl hI ⟨rfl, rfl⟩
end Go.Proofs.Ytgobccnphhljcaa
