/- Printed by a program of this session: walks of Go functions. -/
import Derived.Test.YtgobccnphhljcaaKf
import Derived.Test.YtgobccnphhljcaaDf
import Derived.Test.YtgobccnphhljcaaK0
import Derived.Test.YtgobccnphhljcaaK1
import Derived.Test.YtgobccnphhljcaaK2
import Derived.Test.YtgobccnphhljcaaK5
namespace Go.Proofs.Ytgobccnphhljcaa
set_option linter.unusedVariables false
set_option maxRecDepth 10000
set_option maxHeartbeats 2000000
theorem W71 {I : Mem} {G : List Asn} {p0 : List UInt8} {r : Int} (h : segment_number p0 = some r) {u0 : Value} (hp0 : IV I u0 p0) :
    CallsS Try.prog 71 #[u0] I (G) (fun v J G' => v = .int .i64 r ∧ G = G') := by
  refine CallsS.enter Try.func71 rfl Try.ntmps71 rfl (fun w0 => ?_)
  have hI := Mem.le.refl I
  obtain ⟨a0, c0, rfl⟩ := hp0.hd
  unfold segment_number at h
  refine WC.seq ?_
  refine WC.region ?_
  refine asg rfl rfl ?_
  refine WL.next ?_
  refine WC.seq ?_
  refine WC.region ?_
  refine mv rfl rfl ?_
  obtain ⟨⟨x1, x2, x3⟩, e4, h⟩ := bnd h
  refine call cl83 rfl rfl (W83 e4 hp0) (fun _ J5 _ hJ6 q7 => ?_)
  have hI := hI.trans hJ6
  replace hp0 := hp0.up hJ6
  obtain ⟨rfl, rfl⟩ := q7
  refine mv rfl rfl ?_
  refine ex rfl rfl rfl ?_
  refine ex rfl rfl rfl ?_
  refine ex rfl rfl rfl ?_
  refine asg rfl rfl ?_
  refine asg rfl rfl ?_
  refine asg rfl rfl ?_
  refine WL.next ?_
  refine WC.seq ?_
  refine WC.seq ?_
  refine WC.region ?_
  refine mv rfl rfl ?_
  refine nt rfl rfl ?_
  refine mv rfl rfl ?_
  rcases spl h with ⟨k8, h⟩ | ⟨k8, h⟩
  · skip
    refine WL.rb 14 rfl (bt1n k8) ?_
    refine WL.on rfl rfl ?_
    refine mv rfl rfl ?_
    refine WL.on rfl rfl ?_
    refine mv rfl rfl ?_
    refine WL.on rfl rfl ?_
    refine ln et22 rfl (hp0.rd) rfl ?_
    refine WL.on rfl rfl ?_
    refine ne rfl rfl rfl ?_
    refine pkF rfl rfl rfl ?_
    refine WL.next ?_
    refine WC.ite rfl h (fun k9 h => ?_) (fun k9 h => ?_)
    · skip
      refine WC.seq ?_
      refine WC.region ?_
      refine asg rfl rfl ?_
      refine WL.next ?_
      refine WC.ret ?_
      refine WX.then_ret ?_
      cases h
      exact ret1 Try.results71 rfl hI ⟨rfl, rfl⟩
    refine WC.skip ?_
    refine WX.then_ ?_
    refine WC.seq ?_
    refine WC.region ?_
    refine mv rfl rfl ?_
    refine asg rfl rfl ?_
    refine WL.next ?_
    refine WC.ret ?_
    cases h
    exact ret1 Try.results71 rfl hI ⟨rfl, rfl⟩
  refine WL.rb 14 rfl (bf1n k8) ?_
  refine WL.no rfl rfl rfl rfl ?_
  refine WL.no rfl rfl rfl rfl ?_
  refine WL.no rfl rfl rfl rfl ?_
  refine WL.no rfl rfl rfl rfl ?_
  refine pkT rfl rfl rfl ?_
  refine WL.next ?_
  refine WC.cond rfl (fun _ => ?_) (fun k => by cases k)
  refine WC.seq ?_
  refine WC.region ?_
  refine asg rfl rfl ?_
  refine WL.next ?_
  refine WC.ret ?_
  refine WX.then_ret ?_
  cases h
  exact ret1 Try.results71 rfl hI ⟨rfl, rfl⟩
theorem W52 {I : Mem} {G : List Asn} {p0 : span_Reader} {r : Int × span_Reader} (h : span_Reader_At p0 = some r) {g0 : Nat} :
    CallsS Try.prog 52 #[.pointer (some ⟨g0, 0, none⟩)] I (Ob_span_Reader g0 p0 :: G) (fun v J G' => v = .int .i64 r.1 ∧ Ob_span_Reader g0 (r.2) :: G = G') := by
  refine CallsS.enter Try.func52 rfl Try.ntmps52 rfl (fun w0 => ?_)
  have hI := Mem.le.refl I
  unfold span_Reader_At at h
  refine WC.seq ?_
  refine WC.region ?_
  refine asg rfl rfl ?_
  refine WL.next ?_
  refine WC.seq ?_
  refine WC.region ?_
  refine mv rfl rfl ?_
  refine nc rfl rfl ?_
  refine fa fl94_1 rfl rfl ?_
  refine WL.open_span_Reader (fun a2 c3 h4 => ?_)
  refine ld 0 na3 rfl rfl rfl rfl ?_
  refine asg rfl rfl ?_
  refine WL.next ?_
  refine WC.ret ?_
  refine WX.shut_span_Reader (⟨p0.b_, p0.at_, p0.bad_⟩ : span_Reader) h4 ?_
  cases h
  exact ret1 Try.results52 rfl hI ⟨rfl, rfl⟩
theorem W44 {I : Mem} {G : List Asn} {p0 : List UInt8} {r : segment_Found} (h : segment_Scan p0 = some r) {u0 : Value} (hp0 : IV I u0 p0) :
    CallsS Try.prog 44 #[u0] I (G) (fun v J G' => ∃ ra0_1 rc0_1, v = .agg #[.int .i64 r.Number, .slice ra0_1 r.Records.length rc0_1, .int .i64 r.Whole, .bool r.Sealed] ∧ IV J (.slice ra0_1 r.Records.length rc0_1) r.Records ∧ G = G') := by
  refine CallsS.enter Try.func44 rfl Try.ntmps44 rfl (fun w0 => ?_)
  have hI := Mem.le.refl I
  obtain ⟨a0, c0, rfl⟩ := hp0.hd
  unfold segment_Scan at h
  refine WC.seq ?_
  refine WC.region ?_
  refine al Try.zeroValue56 rfl (fun g1 => ?_)
  refine WL.next ?_
  refine WC.seq ?_
  refine WC.region ?_
  refine mv rfl rfl ?_
  obtain ⟨s3, e4, h⟩ := bnd h
  refine call cl46 rfl rfl (W46 e4 hp0) (fun _ J5 _ hJ6 q7 => ?_)
  have hI := hI.trans hJ6
  replace hp0 := hp0.up hJ6
  obtain ⟨g8, rfl, rfl⟩ := q7
  refine asg rfl rfl ?_
  refine WL.next ?_
  refine WC.seq ?_
  refine WC.region ?_
  refine mv rfl rfl ?_
  obtain ⟨⟨x10, x11, x12, s13⟩, e14, h⟩ := bnd h
  refine call cl70 rfl rfl (W70 e14) (fun _ J15 _ hJ16 q17 => ?_)
  have hI := hI.trans hJ16
  obtain ⟨a18, c19, rfl, h20, rfl⟩ := q17
  refine mv rfl rfl ?_
  refine ex rfl rfl rfl ?_
  refine ex rfl rfl rfl ?_
  refine ex rfl rfl rfl ?_
  refine asg rfl rfl ?_
  refine asg rfl rfl ?_
  refine asg rfl rfl ?_
  refine WL.next ?_
  refine WC.seq ?_
  refine WC.seq ?_
  obtain ⟨j36, hj36, h⟩ := bnd h
  refine WC.joinQ (σ := Bool) (fun x35 => [(2, (.pointer (some ⟨g1, 0, none⟩))), (3, (.pointer (some ⟨g8, 0, none⟩))), (5, (.slice a18 x11.length c19)), (28, (.bool x35))]) (fun x35 => Ob_span_Reader g8 s13 :: bl g1 #[(.int .i64 0), (.slice none 0 0), (.int .i64 0), (.bool false)] 56 :: G) (fun x35 J => x35 = j36) (fun kj36 => ?_) ?_
  · skip
    have lj36 := Mem.le.refl J15
    refine WC.region ?_
    refine mv rfl rfl ?_
    refine nt rfl rfl ?_
    refine mv rfl rfl ?_
    rcases spl hj36 with ⟨k37, hj36⟩ | ⟨k37, hj36⟩
    · skip
      refine WL.rb 20 rfl (bt1n k37) ?_
      refine WL.on rfl rfl ?_
      refine mv rfl rfl ?_
      refine WL.on rfl rfl ?_
      refine ne rfl rfl rfl ?_
      refine pkF rfl rfl rfl ?_
      refine mv rfl rfl ?_
      rcases spl hj36 with ⟨k38, hj36⟩ | ⟨k38, hj36⟩
      · skip
        refine WL.rb 24 rfl (bT k38) ?_
        refine WL.no rfl rfl rfl rfl ?_
        refine WL.no rfl rfl rfl rfl ?_
        refine WL.no rfl rfl rfl rfl ?_
        refine pkT rfl rfl rfl ?_
        refine WL.nil ?_
        refine WX.front 1 ?_
        refine WX.front 1 ?_
        exact (kj36 true _ lj36 (Option.some.inj hj36)).sub ⟨rfl, rfl, rfl, rfl, trivial⟩
      refine WL.rb 24 rfl (bF k38) ?_
      refine WL.on rfl rfl ?_
      refine mv rfl rfl ?_
      refine WL.on rfl rfl ?_
      obtain ⟨x39, e40, hj36⟩ := bnd hj36
      refine call cl71 rfl rfl (W71 e40 h20) (fun _ J41 _ hJ42 q43 => ?_)
      have hI := hI.trans hJ42
      have lj36 := lj36.trans hJ42
      replace h20 := h20.up hJ42
      obtain ⟨rfl, rfl⟩ := q43
      refine WL.on rfl rfl ?_
      refine eq rfl rfl rfl ?_
      refine pkF rfl rfl rfl ?_
      refine WL.nil ?_
      refine WX.front 1 ?_
      refine WX.front 1 ?_
      exact (kj36 (decide (x39 = 0)) _ lj36 (Option.some.inj hj36)).sub ⟨rfl, rfl, rfl, rfl, trivial⟩
    refine WL.rb 20 rfl (bf1n k37) ?_
    refine WL.no rfl rfl rfl rfl ?_
    refine WL.no rfl rfl rfl rfl ?_
    refine pkT rfl rfl rfl ?_
    refine mv rfl rfl ?_
    refine WL.no rfl rfl rfl rfl ?_
    refine WL.no rfl rfl rfl rfl ?_
    refine WL.no rfl rfl rfl rfl ?_
    refine pkT rfl rfl rfl ?_
    refine WL.nil ?_
    refine WX.front 1 ?_
    refine WX.front 1 ?_
    exact (kj36 true _ lj36 (Option.some.inj hj36)).sub ⟨rfl, rfl, rfl, rfl, trivial⟩
  rintro x35 J44 hJ45 rfl
  have hI := hI.trans hJ45
  replace h20 := h20.up hJ45
  refine WX.then_ ?_
  refine WC.iteb rfl h (fun k46 h => ?_) (fun k46 h => ?_)
  · skip
    refine WC.seq ?_
    refine WC.region ?_
    refine bu bt56 rfl rfl rfl ?_
    refine WL.front 1 ?_
    refine sta (C' := #[(.int .i64 0), (.slice none 0 0), (.int .i64 0), (.bool false)]) sz56 rfl rfl rfl rfl rfl rfl ?_
    refine WL.del 1 ?_
    refine WL.next ?_
    refine WC.ret ?_
    refine WX.then_ret ?_
    cases h
    exact retC1x Try.results44 (fun a w ha hw => RC.cellA ha hw 0 rfl ya56 rfl rfl) (fun w hw => hw |>.del 0) hI ⟨_, _, rfl, (IV.nil _ : IV _ _ ([] : List (List UInt8))), rfl⟩
  refine WC.skip ?_
  refine WX.then_ ?_
  refine WC.seq ?_
  refine WC.region ?_
  refine mv rfl rfl ?_
  obtain ⟨x47, e48, h⟩ := bnd h
  refine call cl71 rfl rfl (W71 e48 h20) (fun _ J49 _ hJ50 q51 => ?_)
  have hI := hI.trans hJ50
  replace h20 := h20.up hJ50
  obtain ⟨rfl, rfl⟩ := q51
  refine mv rfl rfl ?_
  obtain ⟨⟨x52, s53⟩, e54, h⟩ := bnd h
  refine call cl52 rfl rfl (W52 e54) (fun _ J55 _ hJ56 q57 => ?_)
  have hI := hI.trans hJ56
  replace h20 := h20.up hJ56
  obtain ⟨rfl, rfl⟩ := q57
  refine fa fl56_0 rfl rfl ?_
  refine WL.front 1 ?_
  refine st (C' := #[(.int .i64 x47), (.slice none 0 0), (.int .i64 0), (.bool false)]) sz3 rfl rfl rfl rfl rfl ?_
  refine fa fl56_2 rfl rfl ?_
  refine st (C' := #[(.int .i64 x47), (.slice none 0 0), (.int .i64 x52), (.bool false)]) sz3 rfl rfl rfl rfl rfl ?_
  refine WL.next ?_
  refine WC.block ?_
  refine WC.own_nil (List UInt8) 22 ?_
  refine WC.front 2 ?_
  refine WC.front 2 ?_
  refine WC.front 2 ?_
  refine WC.loop (σ := (List (List UInt8)) × span_Reader × Int × (Option Addr) × Nat) (fun k (x227, s230, x231, a228, c229) => segment_Scan_l0 x47 k x227 s230 x231) _ (fun (x227, s230, x231, a228, c229) => [(2, (.pointer (some ⟨g1, 0, none⟩))), (3, (.pointer (some ⟨g8, 0, none⟩)))]) (fun (x227, s230, x231, a228, c229) => OV 22 (.slice a228 x227.length c229) x227 :: bl g1 #[(.int .i64 x47), (.slice a228 x227.length c229), (.int .i64 x231), (.bool false)] 56 :: Ob_span_Reader g8 s230 :: G) (fun (x227, s230, x231, a228, c229) J => True) (fun ⟨x227, s230, x231, a228, c229⟩ => rfl) bigN ⟨([] : List (List UInt8)), s53, x52, _, _⟩ h trivial ⟨rfl, rfl, trivial⟩ rfl ?_
  rintro k0 ih0 ⟨x227, s230, x231, a228, c229⟩ J312 hJ313 - h
  change segment_Scan_l0 x47 (k0 + 1) x227 s230 x231 = _ at h
  rw [segment_Scan_l0] at h
  have hI := hI.trans hJ313
  have ll0 := hJ313
  refine WC.block ?_
  refine WC.seq ?_
  refine WC.region ?_
  refine mv rfl rfl ?_
  refine WL.front 2 ?_
  obtain ⟨⟨x314, x315, x316, s317⟩, e318, h⟩ := bnd h
  refine call cl70 rfl rfl (W70 e318) (fun _ J319 _ hJ320 q321 => ?_)
  have hI := hI.trans hJ320
  have ll0 := ll0.trans hJ320
  obtain ⟨a322, c323, rfl, h324, rfl⟩ := q321
  refine mv rfl rfl ?_
  refine ex rfl rfl rfl ?_
  refine ex rfl rfl rfl ?_
  refine ex rfl rfl rfl ?_
  refine asg rfl rfl ?_
  refine asg rfl rfl ?_
  refine asg rfl rfl ?_
  refine WL.next ?_
  refine WC.seq ?_
  refine WC.seq ?_
  refine WC.region ?_
  refine mv rfl rfl ?_
  refine nt rfl rfl ?_
  refine WL.next ?_
  refine WC.itebn rfl h (fun k325 h => ?_) (fun k325 h => ?_)
  · skip
    refine WC.skip ?_
    refine WX.then_ ?_
    refine WC.block ?_
    refine WC.seq ?_
    refine WC.region ?_
    refine mv rfl rfl ?_
    refine eq rfl rfl rfl ?_
    refine asg rfl rfl ?_
    refine WL.next ?_
    refine WC.ite rfl h (fun k326 h => ?_) (fun k326 h => ?_)
    · skip
      refine WC.region ?_
      refine fa fl56_1 rfl rfl ?_
      refine ld 2 na37 rfl rfl rfl rfl ?_
      refine mv rfl rfl ?_
      refine bs (os := [.tmp 51]) (xs := ([x315] : List (List UInt8))) et37 rfl rfl ⟨(h324).rv, trivial⟩ rfl rfl rfl rfl (fun a327 c328 => ?_)
      refine WL.front 2 ?_
      obtain ⟨k330, h⟩ := chk h
      refine ap et37 rfl rfl ((OV.rd 1 rfl)) k330 rfl (fun a331 c332 => ?_)
      refine mv rfl rfl ?_
      refine WL.front 2 ?_
      obtain ⟨⟨x333, s334⟩, e335, h⟩ := bnd h
      refine call cl52 rfl rfl (W52 e335) (fun _ J336 _ hJ337 q338 => ?_)
      have hI := hI.trans hJ337
      have ll0 := ll0.trans hJ337
      replace h324 := h324.up hJ337
      obtain ⟨rfl, rfl⟩ := q338
      refine fa fl56_1 rfl rfl ?_
      refine WL.front 3 ?_
      refine st (C' := #[(.int .i64 x47), (.slice a331 (x227 ++ ([x315] : List (List UInt8))).length c332), (.int .i64 x231), (.bool false)]) sz37 rfl rfl rfl rfl rfl ?_
      refine fa fl56_2 rfl rfl ?_
      refine st (C' := #[(.int .i64 x47), (.slice a331 (x227 ++ ([x315] : List (List UInt8))).length c332), (.int .i64 x333), (.bool false)]) sz3 rfl rfl rfl rfl rfl ?_
      refine WL.del 3 ?_
      refine WL.nil ?_
      refine WX.block_normal ?_
      refine WX.block_normal ?_
      refine WX.front 1 ?_
      refine WX.front 1 ?_
      refine WX.front 2 ?_
      refine WX.round ?_
      exact (ih0 ⟨(x227 ++ ([x315] : List (List UInt8))), s334, x333, _, _⟩ _ ll0 trivial h).sub ⟨rfl, rfl, trivial⟩
    refine WC.seq ?_
    refine WC.sub (r := [(2, (.pointer (some ⟨g1, 0, none⟩))), (3, (.pointer (some ⟨g8, 0, none⟩))), (7, (.int .u8 (x314.toNat : Int))), (8, (.slice a322 x315.length c323))]) ?_ ⟨rfl, rfl, rfl, rfl, trivial⟩
    rcases spl h with ⟨k339, h⟩ | ⟨k339, h⟩
    · skip
      obtain ⟨x340, e341, h⟩ := bnd h
      obtain ⟨x348, e349, h⟩ := bnd h
      obtain ⟨x368, e369, h⟩ := bnd h
      refine WC.front 1 ?_
      refine WC.front 2 ?_
      refine WC.drawn mo (nthL [[], [0], [0, 1], [0, 1, 2], [0, 1, 2, 3], [0, 1, 2], [0, 1, 2, 5], [0, 1, 2, 5, 6], [0, 1, 2], [0, 1, 2, 8], [0, 1, 2, 8, 9], [0, 1, 2, 5, 6, 7, 8, 9, 10], [0, 1, 2, 5, 6, 7, 8, 9, 10, 11], [0, 1, 2, 5, 6, 7, 8, 9, 10, 11, 12], [0, 1, 2, 5, 6, 7, 8, 9, 10, 11, 12, 13], [0, 1, 2, 3, 4, 5, 6, 7, 8, 9, 10, 11, 12, 13, 14], [0, 1, 2, 3, 4, 5, 6, 7, 8, 9, 10, 11, 12, 13, 14, 15], [0, 1, 2, 3, 4, 5, 6, 7, 8, 9, 10, 11, 12, 13, 14, 15, 16]]) (nthL [[], [0], [1], [2], [2, 3], [2], [2, 5], [2, 6], [2], [2, 8], [2, 9], [2, 10], [2, 7, 11], [2, 12], [2, 13], [2, 4, 14], [2, 15], [16]]) (nthK [.val (.int .u8 (x314.toNat : Int)), .val (.bool (decide ((x314.toNat : Int) = 3))), .val (.bool true), .val (.slice a322 x315.length c323), .val (.string (strB x315)), .val (.pointer (some ⟨g1, 0, none⟩)), .val (.int .i64 x47), .any, .val (.pointer (some ⟨g1, 1, none⟩)), .val (.slice a228 x227.length c229), .val (.int .i64 (x227.length : Int)), .any, .any, .any, .val (.string (strB x368)), .val (.bool (x315 == x368)), .val (.bool (x315 == x368)), .val (.bool (x315 == x368))]) [⟨none, none, [6, 9], [], fun _ => bl g1 #[(.int .i64 x47), (.slice a228 x227.length c229), (.int .i64 x231), (.bool false)] 56⟩, ⟨(some 7), (some 12), [], [7], fun l => OV 5 (vget l 0) x340⟩, ⟨none, none, [10], [], fun _ => OV 22 (.slice a228 x227.length c229) x227⟩, ⟨(some 11), (some 12), [], [11], fun l => OV 5 (vget l 0) x348⟩, ⟨(some 12), (some 13), [], [12], fun l => OV 22 (vget l 0) ([x340, x348] : List (List UInt8))⟩, ⟨(some 13), none, [14], [13], fun l => OV 5 (vget l 0) x368⟩] (by kernel_rfl) (by kernel_rfl) (by kernel_rfl) (H := Ob_span_Reader g8 s317 :: G) rfl ⟨?_, ?_, ?_, ?_, ?_, ?_, ?_, ?_, ?_, ?_, ?_, ?_, ?_, ?_, ?_, ?_, ?_, ?_, trivial⟩ ?_
      · intro Q ρ I1 H hI1 hk hpost
        have hc := Mem.le.refl I1
        refine mv rfl rfl ?_
        refine WL.nil ?_
        exact hpost _ _ hc rfl _ (fun _ hd => by obtain rfl := Option.some.inj hd; exact ⟨rfl, trivial⟩)
      · intro Q ρ I1 H hI1 hk hpost
        obtain ⟨_, -⟩ := hk
        have hc := Mem.le.refl I1
        refine eq rfl rfl rfl ?_
        refine WL.nil ?_
        exact hpost _ _ hc rfl _ (fun _ hd => by obtain rfl := Option.some.inj hd; exact ⟨rfl, trivial⟩)
      · intro Q ρ I1 H hI1 hk hpost
        obtain ⟨_, -⟩ := hk
        have hc := Mem.le.refl I1
        refine mv rfl rfl ?_
        refine WL.nil ?_
        exact hpost _ _ hc (bT k339) _ (fun _ hd => by obtain rfl := Option.some.inj hd; exact ⟨rfl, trivial⟩)
      · intro Q ρ I1 H hI1 hk hpost
        obtain ⟨_, -⟩ := hk
        have hc := Mem.le.refl I1
        refine WL.on rfl rfl ?_
        refine mv rfl rfl ?_
        refine WL.nil ?_
        exact hpost _ _ hc rfl _ (fun _ hd => by obtain rfl := Option.some.inj hd; exact ⟨rfl, trivial⟩)
      · intro Q ρ I1 H hI1 hk hpost
        obtain ⟨_, _, -⟩ := hk
        replace h324 := h324.up hI1
        have hc := Mem.le.refl I1
        refine WL.on rfl rfl ?_
        refine cvs Try.underlying22 Try.underlying5 Try.underlying9 rfl (h324.rd) rfl ?_
        refine WL.nil ?_
        exact hpost _ _ hc rfl _ (fun _ hd => by obtain rfl := Option.some.inj hd; exact ⟨rfl, trivial⟩)
      · intro Q ρ I1 H hI1 hk hpost
        obtain ⟨_, -⟩ := hk
        have hc := Mem.le.refl I1
        refine WL.on rfl rfl ?_
        refine fa fl56_0 rfl rfl ?_
        refine WL.nil ?_
        exact hpost _ _ hc rfl _ (fun _ hd => by obtain rfl := Option.some.inj hd; exact ⟨rfl, trivial⟩)
      · intro Q ρ I1 H hI1 hk hpost
        obtain ⟨_, _, -⟩ := hk
        have hc := Mem.le.refl I1
        refine WL.on rfl rfl ?_
        refine ld 0 na3 rfl rfl rfl rfl ?_
        refine WL.nil ?_
        exact hpost _ _ hc rfl _ (fun _ hd => by obtain rfl := Option.some.inj hd; exact ⟨rfl, trivial⟩)
      · intro Q ρ I1 H hI1 hk hpost
        obtain ⟨_, _, -⟩ := hk
        have hc := Mem.le.refl I1
        refine WL.on rfl rfl ?_
        refine call cl59 rfl rfl (W59 e341) (fun _ J342 _ hJ343 q344 => ?_)
        have hc := hc.trans hJ343
        obtain ⟨a345, c346, rfl, rfl⟩ := q344
        refine WL.nil ?_
        exact hpost _ _ hc trivial _ (fun _ hd => by obtain rfl := Option.some.inj hd; exact ⟨rfl, trivial⟩)
      · intro Q ρ I1 H hI1 hk hpost
        obtain ⟨_, -⟩ := hk
        have hc := Mem.le.refl I1
        refine WL.on rfl rfl ?_
        refine fa fl56_1 rfl rfl ?_
        refine WL.nil ?_
        exact hpost _ _ hc rfl _ (fun _ hd => by obtain rfl := Option.some.inj hd; exact ⟨rfl, trivial⟩)
      · intro Q ρ I1 H hI1 hk hpost
        obtain ⟨_, _, -⟩ := hk
        have hc := Mem.le.refl I1
        refine WL.on rfl rfl ?_
        refine ld 0 na37 rfl rfl rfl rfl ?_
        refine WL.nil ?_
        exact hpost _ _ hc rfl _ (fun _ hd => by obtain rfl := Option.some.inj hd; exact ⟨rfl, trivial⟩)
      · intro Q ρ I1 H hI1 hk hpost
        obtain ⟨_, _, -⟩ := hk
        have hc := Mem.le.refl I1
        refine WL.on rfl rfl ?_
        refine ln et37 rfl (OV.rd 0 rfl) rfl ?_
        refine WL.nil ?_
        exact hpost _ _ hc rfl _ (fun _ hd => by obtain rfl := Option.some.inj hd; exact ⟨rfl, trivial⟩)
      · intro Q ρ I1 H hI1 hk hpost
        obtain ⟨_, _, -⟩ := hk
        have hc := Mem.le.refl I1
        refine WL.on rfl rfl ?_
        refine call cl59 rfl rfl (W59 e349) (fun _ J350 _ hJ351 q352 => ?_)
        have hc := hc.trans hJ351
        obtain ⟨a353, c354, rfl, rfl⟩ := q352
        refine WL.nil ?_
        exact hpost _ _ hc trivial _ (fun _ hd => by obtain rfl := Option.some.inj hd; exact ⟨rfl, trivial⟩)
      · intro Q ρ I1 H hI1 hk hpost
        obtain ⟨_, _, _, -⟩ := hk
        have hc := Mem.le.refl I1
        refine WL.on rfl rfl ?_
        refine WL.freeze (fun J359 hJ360 h361 => ?_)
        have hc := hc.trans hJ360
        refine WL.freeze (fun J362 hJ363 h364 => ?_)
        have hc := hc.trans hJ363
        replace h361 := h361.up hJ363
        refine bs (os := [.tmp 66, .tmp 70]) (xs := ([x340, x348] : List (List UInt8))) et37 rfl rfl ⟨(h361).rv, (h364).rv, trivial⟩ rfl rfl rfl rfl (fun a356 c357 => ?_)
        refine WL.nil ?_
        exact hpost _ _ hc trivial _ (fun _ hd => by obtain rfl := Option.some.inj hd; exact ⟨rfl, trivial⟩)
      · intro Q ρ I1 H hI1 hk hpost
        obtain ⟨_, _, -⟩ := hk
        have hc := Mem.le.refl I1
        refine WL.on rfl rfl ?_
        refine WL.freeze (fun J365 hJ366 h367 => ?_)
        have hc := hc.trans hJ366
        refine call cl54 rfl rfl (W54 e369 h367) (fun _ J370 _ hJ371 q372 => ?_)
        have hc := hc.trans hJ371
        replace h367 := h367.up hJ371
        obtain ⟨a373, c374, rfl, rfl⟩ := q372
        refine WL.nil ?_
        exact hpost _ _ hc trivial _ (fun _ hd => by obtain rfl := Option.some.inj hd; exact ⟨rfl, trivial⟩)
      · intro Q ρ I1 H hI1 hk hpost
        obtain ⟨_, _, -⟩ := hk
        have hc := Mem.le.refl I1
        refine WL.on rfl rfl ?_
        refine cvs Try.underlying22 Try.underlying5 Try.underlying9 rfl ((OV.rd 0 rfl)) rfl ?_
        refine WL.nil ?_
        exact hpost _ _ hc rfl _ (fun _ hd => by obtain rfl := Option.some.inj hd; exact ⟨rfl, trivial⟩)
      · intro Q ρ I1 H hI1 hk hpost
        obtain ⟨_, _, _, -⟩ := hk
        have hc := Mem.le.refl I1
        refine WL.on rfl rfl ?_
        refine se rfl rfl rfl ?_
        refine WL.nil ?_
        exact hpost _ _ hc rfl _ (fun _ hd => by obtain rfl := Option.some.inj hd; exact ⟨rfl, trivial⟩)
      · intro Q ρ I1 H hI1 hk hpost
        obtain ⟨_, _, -⟩ := hk
        have hc := Mem.le.refl I1
        refine pkT rfl rfl rfl ?_
        refine WL.nil ?_
        exact hpost _ _ hc rfl _ (fun _ hd => by obtain rfl := Option.some.inj hd; exact ⟨rfl, trivial⟩)
      · intro Q ρ I1 H hI1 hk hpost
        obtain ⟨_, -⟩ := hk
        have hc := Mem.le.refl I1
        refine asg rfl rfl ?_
        refine WL.nil ?_
        exact hpost _ _ hc rfl _ (fun _ hd => by obtain rfl := Option.some.inj hd; exact ⟨rfl, trivial⟩)
      rintro ρ J376 hJ377 -
      refine WX.sub (r := [(2, (.pointer (some ⟨g1, 0, none⟩))), (3, (.pointer (some ⟨g8, 0, none⟩))), (58, (.bool (x315 == x368)))]) ?_ ⟨rfl, rfl, rfl, trivial⟩
      refine WX.is (H := bl g1 #[(.int .i64 x47), (.slice a228 x227.length c229), (.int .i64 x231), (.bool false)] 56 :: OV 22 (.slice a228 x227.length c229) x227 :: OV 5 (ρ 13) x368 :: Ob_span_Reader g8 s317 :: G) rfl ?_
      have hI := hI.trans hJ377
      have ll0 := ll0.trans hJ377
      refine WX.then_ ?_
      refine WC.iteb rfl h (fun k378 h => ?_) (fun k378 h => ?_)
      · skip
        refine WC.seq ?_
        refine WC.region ?_
        refine mv rfl rfl ?_
        refine WL.front 3 ?_
        obtain ⟨⟨x379, s380⟩, e381, h⟩ := bnd h
        refine call cl52 rfl rfl (W52 e381) (fun _ J382 _ hJ383 q384 => ?_)
        have hI := hI.trans hJ383
        have ll0 := ll0.trans hJ383
        obtain ⟨rfl, rfl⟩ := q384
        refine mv rfl rfl ?_
        obtain ⟨⟨x385, s386⟩, e387, h⟩ := bnd h
        refine call cl48 rfl rfl (W48 e387) (fun _ J388 _ hJ389 q390 => ?_)
        have hI := hI.trans hJ389
        have ll0 := ll0.trans hJ389
        obtain ⟨rfl, rfl⟩ := q390
        refine eq rfl rfl rfl ?_
        refine fa fl56_2 rfl rfl ?_
        refine WL.front 1 ?_
        refine st (C' := #[(.int .i64 x47), (.slice a228 x227.length c229), (.int .i64 x379), (.bool false)]) sz3 rfl rfl rfl rfl rfl ?_
        refine fa fl56_3 rfl rfl ?_
        refine st (C' := #[(.int .i64 x47), (.slice a228 x227.length c229), (.int .i64 x379), (.bool (decide (x385 = 0)))]) sz4 rfl rfl rfl rfl rfl ?_
        refine WL.del 1 ?_
        refine WL.del 2 ?_
        refine WL.next ?_
        refine WC.seq ?_
        refine WC.region ?_
        refine lda 0 ya56 rfl rfl rfl rfl rfl ?_
        refine sta (C' := #[(.int .i64 x47), (.slice a228 x227.length c229), (.int .i64 x379), (.bool (decide (x385 = 0)))]) sz56 rfl rfl rfl rfl rfl rfl ?_
        refine WL.next ?_
        refine WC.ret ?_
        refine WX.block_ret ?_
        refine WX.block_ret ?_
        refine WX.then_ret ?_
        refine WX.block_ret ?_
        refine WX.front 1 ?_
        refine WX.freeze (fun J391 hJ392 h393 => ?_)
        have hI := hI.trans hJ392
        have ll0 := ll0.trans hJ392
        cases h
        exact retC1x Try.results44 (fun a w ha hw => RC.cellA ha hw 0 rfl ya56 rfl rfl) (fun w hw => hw |>.del 0) hI ⟨_, _, rfl, h393, rfl⟩
      refine WC.seq ?_
      refine WC.region ?_
      refine lda 0 ya56 rfl rfl rfl rfl rfl ?_
      refine sta (C' := #[(.int .i64 x47), (.slice a228 x227.length c229), (.int .i64 x231), (.bool false)]) sz56 rfl rfl rfl rfl rfl rfl ?_
      refine WL.del 2 ?_
      refine WL.del 2 ?_
      refine WL.next ?_
      refine WC.ret ?_
      refine WX.block_ret ?_
      refine WX.block_ret ?_
      refine WX.then_ret ?_
      refine WX.block_ret ?_
      refine WX.front 1 ?_
      refine WX.freeze (fun J394 hJ395 h396 => ?_)
      have hI := hI.trans hJ395
      have ll0 := ll0.trans hJ395
      cases h
      exact retC1x Try.results44 (fun a w ha hw => RC.cellA ha hw 0 rfl ya56 rfl rfl) (fun w hw => hw |>.del 0) hI ⟨_, _, rfl, h396, rfl⟩
    refine WC.drawn mo (nthL [[], [0], [0, 1], [0, 1, 2], [0, 1, 2, 3], [0, 1, 2], [0, 1, 2, 5], [0, 1, 2, 5, 6], [0, 1, 2], [0, 1, 2, 8], [0, 1, 2, 8, 9], [0, 1, 2, 5, 6, 7, 8, 9, 10], [0, 1, 2, 5, 6, 7, 8, 9, 10, 11], [0, 1, 2, 5, 6, 7, 8, 9, 10, 11, 12], [0, 1, 2, 5, 6, 7, 8, 9, 10, 11, 12, 13], [0, 1, 2, 3, 4, 5, 6, 7, 8, 9, 10, 11, 12, 13, 14], [0, 1, 2, 3, 4, 5, 6, 7, 8, 9, 10, 11, 12, 13, 14, 15], [0, 1, 2, 3, 4, 5, 6, 7, 8, 9, 10, 11, 12, 13, 14, 15, 16]]) (nthL [[], [0], [1], [2], [2], [2], [2], [2], [2], [2], [2], [2], [2], [2], [2], [2], [2, 15], [16]]) (nthK [.val (.int .u8 (x314.toNat : Int)), .val (.bool (decide ((x314.toNat : Int) = 3))), .val (.bool false), .val undef, .val undef, .val undef, .val undef, .val undef, .val undef, .val undef, .val undef, .val undef, .val undef, .val undef, .val undef, .val undef, .val (.bool false), .val (.bool false)]) [] (by kernel_rfl) (by kernel_rfl) (by kernel_rfl) (H := Ob_span_Reader g8 s317 :: OV 22 (.slice a228 x227.length c229) x227 :: bl g1 #[(.int .i64 x47), (.slice a228 x227.length c229), (.int .i64 x231), (.bool false)] 56 :: G) rfl ⟨?_, ?_, ?_, ?_, ?_, ?_, ?_, ?_, ?_, ?_, ?_, ?_, ?_, ?_, ?_, ?_, ?_, ?_, trivial⟩ ?_
    · intro Q ρ I1 H hI1 hk hpost
      have hc := Mem.le.refl I1
      refine mv rfl rfl ?_
      refine WL.nil ?_
      exact hpost _ _ hc rfl _ (fun _ hd => by obtain rfl := Option.some.inj hd; exact ⟨rfl, trivial⟩)
    · intro Q ρ I1 H hI1 hk hpost
      obtain ⟨_, -⟩ := hk
      have hc := Mem.le.refl I1
      refine eq rfl rfl rfl ?_
      refine WL.nil ?_
      exact hpost _ _ hc rfl _ (fun _ hd => by obtain rfl := Option.some.inj hd; exact ⟨rfl, trivial⟩)
    · intro Q ρ I1 H hI1 hk hpost
      obtain ⟨_, -⟩ := hk
      have hc := Mem.le.refl I1
      refine mv rfl rfl ?_
      refine WL.nil ?_
      exact hpost _ _ hc (bF k339) _ (fun _ hd => by obtain rfl := Option.some.inj hd; exact ⟨rfl, trivial⟩)
    · intro Q ρ I1 H hI1 hk hpost
      obtain ⟨_, -⟩ := hk
      have hc := Mem.le.refl I1
      refine WL.no rfl rfl rfl rfl ?_
      refine WL.nil ?_
      exact hpost _ _ hc rfl _ (fun _ hd => by obtain rfl := Option.some.inj hd; exact ⟨rfl, trivial⟩)
    · intro Q ρ I1 H hI1 hk hpost
      obtain ⟨_, -⟩ := hk
      have hc := Mem.le.refl I1
      refine WL.no rfl rfl rfl rfl ?_
      refine WL.nil ?_
      exact hpost _ _ hc rfl _ (fun _ hd => by obtain rfl := Option.some.inj hd; exact ⟨rfl, trivial⟩)
    · intro Q ρ I1 H hI1 hk hpost
      obtain ⟨_, -⟩ := hk
      have hc := Mem.le.refl I1
      refine WL.no rfl rfl rfl rfl ?_
      refine WL.nil ?_
      exact hpost _ _ hc rfl _ (fun _ hd => by obtain rfl := Option.some.inj hd; exact ⟨rfl, trivial⟩)
    · intro Q ρ I1 H hI1 hk hpost
      obtain ⟨_, -⟩ := hk
      have hc := Mem.le.refl I1
      refine WL.no rfl rfl rfl rfl ?_
      refine WL.nil ?_
      exact hpost _ _ hc rfl _ (fun _ hd => by obtain rfl := Option.some.inj hd; exact ⟨rfl, trivial⟩)
    · intro Q ρ I1 H hI1 hk hpost
      obtain ⟨_, -⟩ := hk
      have hc := Mem.le.refl I1
      refine WL.no rfl rfl rfl rfl ?_
      refine WL.nil ?_
      exact hpost _ _ hc rfl _ (fun _ hd => by obtain rfl := Option.some.inj hd; exact ⟨rfl, trivial⟩)
    · intro Q ρ I1 H hI1 hk hpost
      obtain ⟨_, -⟩ := hk
      have hc := Mem.le.refl I1
      refine WL.no rfl rfl rfl rfl ?_
      refine WL.nil ?_
      exact hpost _ _ hc rfl _ (fun _ hd => by obtain rfl := Option.some.inj hd; exact ⟨rfl, trivial⟩)
    · intro Q ρ I1 H hI1 hk hpost
      obtain ⟨_, -⟩ := hk
      have hc := Mem.le.refl I1
      refine WL.no rfl rfl rfl rfl ?_
      refine WL.nil ?_
      exact hpost _ _ hc rfl _ (fun _ hd => by obtain rfl := Option.some.inj hd; exact ⟨rfl, trivial⟩)
    · intro Q ρ I1 H hI1 hk hpost
      obtain ⟨_, -⟩ := hk
      have hc := Mem.le.refl I1
      refine WL.no rfl rfl rfl rfl ?_
      refine WL.nil ?_
      exact hpost _ _ hc rfl _ (fun _ hd => by obtain rfl := Option.some.inj hd; exact ⟨rfl, trivial⟩)
    · intro Q ρ I1 H hI1 hk hpost
      obtain ⟨_, -⟩ := hk
      have hc := Mem.le.refl I1
      refine WL.no rfl rfl rfl rfl ?_
      refine WL.nil ?_
      exact hpost _ _ hc rfl _ (fun _ hd => by obtain rfl := Option.some.inj hd; exact ⟨rfl, trivial⟩)
    · intro Q ρ I1 H hI1 hk hpost
      obtain ⟨_, -⟩ := hk
      have hc := Mem.le.refl I1
      refine WL.no rfl rfl rfl rfl ?_
      refine WL.nil ?_
      exact hpost _ _ hc rfl _ (fun _ hd => by obtain rfl := Option.some.inj hd; exact ⟨rfl, trivial⟩)
    · intro Q ρ I1 H hI1 hk hpost
      obtain ⟨_, -⟩ := hk
      have hc := Mem.le.refl I1
      refine WL.no rfl rfl rfl rfl ?_
      refine WL.nil ?_
      exact hpost _ _ hc rfl _ (fun _ hd => by obtain rfl := Option.some.inj hd; exact ⟨rfl, trivial⟩)
    · intro Q ρ I1 H hI1 hk hpost
      obtain ⟨_, -⟩ := hk
      have hc := Mem.le.refl I1
      refine WL.no rfl rfl rfl rfl ?_
      refine WL.nil ?_
      exact hpost _ _ hc rfl _ (fun _ hd => by obtain rfl := Option.some.inj hd; exact ⟨rfl, trivial⟩)
    · intro Q ρ I1 H hI1 hk hpost
      obtain ⟨_, -⟩ := hk
      have hc := Mem.le.refl I1
      refine WL.no rfl rfl rfl rfl ?_
      refine WL.nil ?_
      exact hpost _ _ hc rfl _ (fun _ hd => by obtain rfl := Option.some.inj hd; exact ⟨rfl, trivial⟩)
    · intro Q ρ I1 H hI1 hk hpost
      obtain ⟨_, _, -⟩ := hk
      have hc := Mem.le.refl I1
      refine pkF rfl rfl rfl ?_
      refine WL.nil ?_
      exact hpost _ _ hc rfl _ (fun _ hd => by obtain rfl := Option.some.inj hd; exact ⟨rfl, trivial⟩)
    · intro Q ρ I1 H hI1 hk hpost
      obtain ⟨_, -⟩ := hk
      have hc := Mem.le.refl I1
      refine asg rfl rfl ?_
      refine WL.nil ?_
      exact hpost _ _ hc rfl _ (fun _ hd => by obtain rfl := Option.some.inj hd; exact ⟨rfl, trivial⟩)
    rintro ρ J397 hJ398 -
    refine WX.sub (r := [(2, (.pointer (some ⟨g1, 0, none⟩))), (3, (.pointer (some ⟨g8, 0, none⟩))), (58, (.bool false))]) ?_ ⟨rfl, rfl, rfl, trivial⟩
    refine WX.is (H := Ob_span_Reader g8 s317 :: OV 22 (.slice a228 x227.length c229) x227 :: bl g1 #[(.int .i64 x47), (.slice a228 x227.length c229), (.int .i64 x231), (.bool false)] 56 :: G) rfl ?_
    have hI := hI.trans hJ398
    have ll0 := ll0.trans hJ398
    refine WX.then_ ?_
    refine WC.cond rfl (fun k => by cases k) (fun _ => ?_)
    refine WC.seq ?_
    refine WC.region ?_
    refine lda 2 ya56 rfl rfl rfl rfl rfl ?_
    refine WL.front 2 ?_
    refine sta (C' := #[(.int .i64 x47), (.slice a228 x227.length c229), (.int .i64 x231), (.bool false)]) sz56 rfl rfl rfl rfl rfl rfl ?_
    refine WL.del 1 ?_
    refine WL.next ?_
    refine WC.ret ?_
    refine WX.block_ret ?_
    refine WX.block_ret ?_
    refine WX.then_ret ?_
    refine WX.block_ret ?_
    refine WX.front 1 ?_
    refine WX.freeze (fun J399 hJ400 h401 => ?_)
    have hI := hI.trans hJ400
    have ll0 := ll0.trans hJ400
    cases h
    exact retC1x Try.results44 (fun a w ha hw => RC.cellA ha hw 0 rfl ya56 rfl rfl) (fun w hw => hw |>.del 0) hI ⟨_, _, rfl, h401, rfl⟩
  refine WC.seq ?_
  refine WC.region ?_
  refine lda 2 ya56 rfl rfl rfl rfl rfl ?_
  refine WL.front 2 ?_
  refine sta (C' := #[(.int .i64 x47), (.slice a228 x227.length c229), (.int .i64 x231), (.bool false)]) sz56 rfl rfl rfl rfl rfl rfl ?_
  refine WL.del 1 ?_
  refine WL.next ?_
  refine WC.ret ?_
  refine WX.then_ret ?_
  refine WX.block_ret ?_
  refine WX.then_ret ?_
  refine WX.block_ret ?_
  refine WX.front 1 ?_
  refine WX.freeze (fun J402 hJ403 h404 => ?_)
  have hI := hI.trans hJ403
  have ll0 := ll0.trans hJ403
  cases h
  exact retC1x Try.results44 (fun a w ha hw => RC.cellA ha hw 0 rfl ya56 rfl rfl) (fun w hw => hw |>.del 0) hI ⟨_, _, rfl, h404, rfl⟩
theorem W42 {I : Mem} {G : List Asn} {r : Bool} (h : haulierlaw09_wakes = some r) :
    CallsS Try.prog 42 #[] I (G) (fun v J G' => v = .bool r ∧ G = G') := by
  refine CallsS.enter Try.func42 rfl Try.ntmps42 rfl (fun w0 => ?_)
  have hI := Mem.le.refl I
  unfold haulierlaw09_wakes at h
  refine WC.seq ?_
  refine WC.region ?_
  refine asg rfl rfl ?_
  refine WL.next ?_
  refine WC.seq ?_
  refine WC.region ?_
  obtain ⟨x1, e2, h⟩ := bnd h
  refine call cl44 rfl rfl (W44 e2 (IV.nil _ : IV _ _ ([] : List UInt8))) (fun _ J3 _ hJ4 q5 => ?_)
  have hI := hI.trans hJ4
  obtain ⟨a6, c7, rfl, h8, rfl⟩ := q5
  refine al Try.zeroValue56 rfl (fun g9 => ?_)
  refine sta (C' := #[(.int .i64 x1.Number), (.slice a6 x1.Records.length c7), (.int .i64 x1.Whole), (.bool x1.Sealed)]) sz56 rfl rfl rfl rfl rfl rfl ?_
  refine WL.next ?_
  refine WC.seq ?_
  refine WC.region ?_
  obtain ⟨x11, e12, h⟩ := bnd h
  refine call cl39 rfl rfl (W39 e12) (fun _ J13 _ hJ14 q15 => ?_)
  have hI := hI.trans hJ14
  replace h8 := h8.up hJ14
  obtain ⟨a16, c17, rfl, rfl⟩ := q15
  refine bs (os := [.const (.int .u8 7)]) (xs := ([(7 : UInt8)] : List UInt8)) et22 rfl rfl ⟨(Rv.of_u8 _ (7 : UInt8)), trivial⟩ rfl rfl rfl rfl (fun a19 c20 => ?_)
  refine WL.freeze (fun J22 hJ23 h24 => ?_)
  have hI := hI.trans hJ23
  replace h8 := h8.up hJ23
  obtain ⟨x25, e26, h⟩ := bnd h
  refine call cl41 rfl rfl (W41 e26 h24) (fun _ J27 _ hJ28 q29 => ?_)
  have hI := hI.trans hJ28
  replace h24 := h24.up hJ28; replace h8 := h8.up hJ28
  obtain ⟨a30, c31, rfl, rfl⟩ := q29
  refine WL.front 1 ?_
  obtain ⟨k33, h⟩ := chk h
  refine ap et22 rfl rfl ((OV.rd 1 rfl)) k33 rfl (fun a34 c35 => ?_)
  obtain ⟨x36, e37, h⟩ := bnd h
  refine call cl40 rfl rfl (W40 e37) (fun _ J38 _ hJ39 q40 => ?_)
  have hI := hI.trans hJ39
  replace h24 := h24.up hJ39; replace h8 := h8.up hJ39
  obtain ⟨a41, c42, rfl, rfl⟩ := q40
  refine WL.front 1 ?_
  obtain ⟨k44, h⟩ := chk h
  refine ap et22 rfl rfl ((OV.rd 1 rfl)) k44 rfl (fun a45 c46 => ?_)
  refine asg rfl rfl ?_
  refine WL.del 1 ?_
  refine WL.del 1 ?_
  refine WL.next ?_
  refine WC.seq ?_
  refine WC.region ?_
  refine mv rfl rfl ?_
  refine WL.freeze (fun J47 hJ48 h49 => ?_)
  have hI := hI.trans hJ48
  replace h8 := h8.up hJ48
  obtain ⟨x50, e51, h⟩ := bnd h
  refine call cl44 rfl rfl (W44 e51 h49) (fun _ J52 _ hJ53 q54 => ?_)
  have hI := hI.trans hJ53
  replace h49 := h49.up hJ53; replace h8 := h8.up hJ53
  obtain ⟨a55, c56, rfl, h57, rfl⟩ := q54
  refine al Try.zeroValue56 rfl (fun g58 => ?_)
  refine sta (C' := #[(.int .i64 x50.Number), (.slice a55 x50.Records.length c56), (.int .i64 x50.Whole), (.bool x50.Sealed)]) sz56 rfl rfl rfl rfl rfl rfl ?_
  refine WL.next ?_
  refine WC.seq ?_
  refine WC.region ?_
  refine fa fl56_0 rfl rfl ?_
  refine ld 1 na3 rfl rfl rfl rfl ?_
  refine eq rfl rfl rfl ?_
  refine mv rfl rfl ?_
  rcases spl h with ⟨k60, h⟩ | ⟨k60, h⟩
  · skip
    refine WL.rb 16 rfl (bT k60) ?_
    refine WL.on rfl rfl ?_
    refine fa fl56_0 rfl rfl ?_
    refine WL.on rfl rfl ?_
    refine ld 0 na3 rfl rfl rfl rfl ?_
    refine WL.on rfl rfl ?_
    refine eq rfl rfl rfl ?_
    refine pkT rfl rfl rfl ?_
    refine mv rfl rfl ?_
    rcases spl h with ⟨k61, h⟩ | ⟨k61, h⟩
    · skip
      refine WL.rb 21 rfl (bT k61) ?_
      refine WL.on rfl rfl ?_
      refine fa fl56_1 rfl rfl ?_
      refine WL.on rfl rfl ?_
      refine ld 0 na37 rfl rfl rfl rfl ?_
      refine WL.on rfl rfl ?_
      refine ln et37 rfl (h57.rd) rfl ?_
      refine WL.on rfl rfl ?_
      refine eq rfl rfl rfl ?_
      refine pkT rfl rfl rfl ?_
      refine mv rfl rfl ?_
      rcases spl h with ⟨k62, h⟩ | ⟨k62, h⟩
      · skip
        refine WL.rb 27 rfl (bT k62) ?_
        refine WL.on rfl rfl ?_
        refine fa fl56_3 rfl rfl ?_
        refine WL.on rfl rfl ?_
        refine ld 0 na4 rfl rfl rfl rfl ?_
        refine pkT rfl rfl rfl ?_
        refine mv rfl rfl ?_
        rcases spl h with ⟨k63, h⟩ | ⟨k63, h⟩
        · skip
          refine WL.rb 31 rfl (bt1 k63) ?_
          refine WL.on rfl rfl ?_
          refine fa fl56_2 rfl rfl ?_
          refine WL.on rfl rfl ?_
          refine ld 0 na3 rfl rfl rfl rfl ?_
          refine WL.on rfl rfl ?_
          refine mv rfl rfl ?_
          refine WL.on rfl rfl ?_
          refine ln et22 rfl (h49.rd) rfl ?_
          refine WL.on rfl rfl ?_
          refine eq rfl rfl rfl ?_
          refine pkT rfl rfl rfl ?_
          refine asg rfl rfl ?_
          refine WL.del 0 ?_
          refine WL.del 0 ?_
          refine WL.next ?_
          refine WC.ret ?_
          cases h
          exact ret1 Try.results42 rfl hI ⟨rfl, rfl⟩
        refine WL.rb 31 rfl (bf1 k63) ?_
        refine WL.no rfl rfl rfl rfl ?_
        refine WL.no rfl rfl rfl rfl ?_
        refine WL.no rfl rfl rfl rfl ?_
        refine WL.no rfl rfl rfl rfl ?_
        refine WL.no rfl rfl rfl rfl ?_
        refine pkF rfl rfl rfl ?_
        refine asg rfl rfl ?_
        refine WL.del 0 ?_
        refine WL.del 0 ?_
        refine WL.next ?_
        refine WC.ret ?_
        cases h
        exact ret1 Try.results42 rfl hI ⟨rfl, rfl⟩
      refine WL.rb 27 rfl (bF k62) ?_
      refine WL.no rfl rfl rfl rfl ?_
      refine WL.no rfl rfl rfl rfl ?_
      refine pkF rfl rfl rfl ?_
      refine mv rfl rfl ?_
      refine WL.no rfl rfl rfl rfl ?_
      refine WL.no rfl rfl rfl rfl ?_
      refine WL.no rfl rfl rfl rfl ?_
      refine WL.no rfl rfl rfl rfl ?_
      refine WL.no rfl rfl rfl rfl ?_
      refine pkF rfl rfl rfl ?_
      refine asg rfl rfl ?_
      refine WL.del 0 ?_
      refine WL.del 0 ?_
      refine WL.next ?_
      refine WC.ret ?_
      cases h
      exact ret1 Try.results42 rfl hI ⟨rfl, rfl⟩
    refine WL.rb 21 rfl (bF k61) ?_
    refine WL.no rfl rfl rfl rfl ?_
    refine WL.no rfl rfl rfl rfl ?_
    refine WL.no rfl rfl rfl rfl ?_
    refine WL.no rfl rfl rfl rfl ?_
    refine pkF rfl rfl rfl ?_
    refine mv rfl rfl ?_
    refine WL.no rfl rfl rfl rfl ?_
    refine WL.no rfl rfl rfl rfl ?_
    refine pkF rfl rfl rfl ?_
    refine mv rfl rfl ?_
    refine WL.no rfl rfl rfl rfl ?_
    refine WL.no rfl rfl rfl rfl ?_
    refine WL.no rfl rfl rfl rfl ?_
    refine WL.no rfl rfl rfl rfl ?_
    refine WL.no rfl rfl rfl rfl ?_
    refine pkF rfl rfl rfl ?_
    refine asg rfl rfl ?_
    refine WL.del 0 ?_
    refine WL.del 0 ?_
    refine WL.next ?_
    refine WC.ret ?_
    cases h
    exact ret1 Try.results42 rfl hI ⟨rfl, rfl⟩
  refine WL.rb 16 rfl (bF k60) ?_
  refine WL.no rfl rfl rfl rfl ?_
  refine WL.no rfl rfl rfl rfl ?_
  refine WL.no rfl rfl rfl rfl ?_
  refine pkF rfl rfl rfl ?_
  refine mv rfl rfl ?_
  refine WL.no rfl rfl rfl rfl ?_
  refine WL.no rfl rfl rfl rfl ?_
  refine WL.no rfl rfl rfl rfl ?_
  refine WL.no rfl rfl rfl rfl ?_
  refine pkF rfl rfl rfl ?_
  refine mv rfl rfl ?_
  refine WL.no rfl rfl rfl rfl ?_
  refine WL.no rfl rfl rfl rfl ?_
  refine pkF rfl rfl rfl ?_
  refine mv rfl rfl ?_
  refine WL.no rfl rfl rfl rfl ?_
  refine WL.no rfl rfl rfl rfl ?_
  refine WL.no rfl rfl rfl rfl ?_
  refine WL.no rfl rfl rfl rfl ?_
  refine WL.no rfl rfl rfl rfl ?_
  refine pkF rfl rfl rfl ?_
  refine asg rfl rfl ?_
  refine WL.del 0 ?_
  refine WL.del 0 ?_
  refine WL.next ?_
  refine WC.ret ?_
  cases h
  exact ret1 Try.results42 rfl hI ⟨rfl, rfl⟩
theorem W8 {I : Mem} {G : List Asn} {p0 : Int} {p1 : Int} {p2 : List UInt8} {r : Bool} (h : haulierlaw09_SegmentUnits p0 p1 p2 = some r) {u2 : Value} (hp2 : IV I u2 p2) :
    CallsS Try.prog 8 #[.int .i64 p0, .int .i64 p1, u2] I (G) (fun v J G' => v = .bool r ∧ G = G') := by
  refine CallsS.enter Try.func8 rfl Try.ntmps8 rfl (fun w0 => ?_)
  have hI := Mem.le.refl I
  obtain ⟨a2, c2, rfl⟩ := hp2.hd
  unfold haulierlaw09_SegmentUnits at h
  refine WC.seq ?_
  refine WC.region ?_
  refine asg rfl rfl ?_
  refine WL.next ?_
  refine WC.seq ?_
  refine WC.region ?_
  refine mv rfl rfl ?_
  obtain ⟨x1, e2, h⟩ := bnd h
  refine call cl19 rfl rfl (W19 e2) (fun _ J3 _ hJ4 q5 => ?_)
  have hI := hI.trans hJ4
  replace hp2 := hp2.up hJ4
  obtain ⟨rfl, rfl⟩ := q5
  refine ad rfl rfl rfl ?_
  refine mv rfl rfl ?_
  obtain ⟨x6, e7, h⟩ := bnd h
  refine call cl19 rfl rfl (W19 e7) (fun _ J8 _ hJ9 q10 => ?_)
  have hI := hI.trans hJ9
  replace hp2 := hp2.up hJ9
  obtain ⟨rfl, rfl⟩ := q10
  refine asg rfl rfl ?_
  refine asg rfl rfl ?_
  refine WL.next ?_
  refine WC.seq ?_
  refine WC.region ?_
  refine mv rfl rfl ?_
  obtain ⟨x11, e12, h⟩ := bnd h
  refine call cl15 rfl rfl (W15 e12 hp2) (fun _ J13 _ hJ14 q15 => ?_)
  have hI := hI.trans hJ14
  replace hp2 := hp2.up hJ14
  obtain ⟨a16, c17, rfl, rfl⟩ := q15
  refine asg rfl rfl ?_
  refine WL.next ?_
  refine WC.seq ?_
  refine WC.region ?_
  refine mv rfl rfl ?_
  refine cv8 Try.underlying3 Try.underlying5 rfl rfl ?_
  refine bs (os := [.const (.int .u8 1), .tmp 18]) (xs := ([(1 : UInt8), (u8of (w64 (1 + x1)))] : List UInt8)) et22 rfl rfl ⟨(Rv.of_u8 _ (1 : UInt8)), (Rv.of_u8 _ (u8of (w64 (1 + x1)))), trivial⟩ rfl rfl rfl rfl (fun a19 c20 => ?_)
  refine WL.freeze (fun J22 hJ23 h24 => ?_)
  have hI := hI.trans hJ23
  obtain ⟨x25, e26, h⟩ := bnd h
  refine call cl26 rfl rfl (W26 e26 h24) (fun _ J27 _ hJ28 q29 => ?_)
  have hI := hI.trans hJ28
  replace h24 := h24.up hJ28
  obtain ⟨a30, c31, rfl, rfl⟩ := q29
  refine mv rfl rfl ?_
  refine cv8 Try.underlying3 Try.underlying5 rfl rfl ?_
  refine mv rfl rfl ?_
  refine cv8 Try.underlying3 Try.underlying5 rfl rfl ?_
  obtain ⟨x36, e37, h⟩ := bnd h
  refine bs (os := [.const (.int .u8 3), .tmp 22, .tmp 24]) (xs := ([(3 : UInt8), (u8of (w64 (1 + x1))), (u8of x6)] : List UInt8)) et22 rfl rfl ⟨(Rv.of_u8 _ (3 : UInt8)), (Rv.of_u8 _ (u8of (w64 (1 + x1)))), (Rv.of_u8 _ (u8of x6)), trivial⟩ rfl rfl rfl rfl (fun a33 c34 => ?_)
  refine WL.ren (Option.some.inj e37) ?_
  refine WL.freeze (fun J38 hJ39 h40 => ?_)
  have hI := hI.trans hJ39
  replace h24 := h24.up hJ39
  obtain ⟨x41, e42, h⟩ := bnd h
  refine call cl26 rfl rfl (W26 e42 h40) (fun _ J43 _ hJ44 q45 => ?_)
  have hI := hI.trans hJ44
  replace h24 := h24.up hJ44; replace h40 := h40.up hJ44
  obtain ⟨a46, c47, rfl, rfl⟩ := q45
  refine bs (os := [.const (.int .u8 2)]) (xs := ([(2 : UInt8)] : List UInt8)) et22 rfl rfl ⟨(Rv.of_u8 _ (2 : UInt8)), trivial⟩ rfl rfl rfl rfl (fun a49 c50 => ?_)
  refine mv rfl rfl ?_
  obtain ⟨k52, h⟩ := chk h
  refine ap et22 rfl rfl ((OV.rd 3 rfl)) k52 rfl (fun a53 c54 => ?_)
  refine WL.freeze (fun J55 hJ56 h57 => ?_)
  have hI := hI.trans hJ56
  replace h24 := h24.up hJ56; replace h40 := h40.up hJ56
  obtain ⟨x58, e59, h⟩ := bnd h
  refine call cl26 rfl rfl (W26 e59 h57) (fun _ J60 _ hJ61 q62 => ?_)
  have hI := hI.trans hJ61
  replace h24 := h24.up hJ61; replace h40 := h40.up hJ61; replace h57 := h57.up hJ61
  obtain ⟨a63, c64, rfl, rfl⟩ := q62
  refine asg rfl rfl ?_
  refine asg rfl rfl ?_
  refine asg rfl rfl ?_
  refine WL.next ?_
  refine WC.seq ?_
  refine WC.seq ?_
  obtain ⟨j231, hj231, h⟩ := bnd h
  refine WC.joinQ (σ := Bool) (fun x230 => [(0, (.int .i64 (w64 (1 + x1)))), (1, (.int .i64 x6)), (59, (.bool x230))]) (fun x230 => G) (fun x230 J => x230 = j231) (fun kj231 => ?_) ?_
  · skip
    have lj231 := Mem.le.refl J60
    refine WC.region ?_
    refine mv rfl rfl ?_
    obtain ⟨x232, e233, hj231⟩ := bnd hj231
    refine call cl39 rfl rfl (W39 e233) (fun _ J234 _ hJ235 q236 => ?_)
    have hI := hI.trans hJ235
    have lj231 := lj231.trans hJ235
    obtain ⟨a237, c238, rfl, rfl⟩ := q236
    refine bs (os := [.const (.int .u8 6)]) (xs := ([(6 : UInt8)] : List UInt8)) et22 rfl rfl ⟨(Rv.of_u8 _ (6 : UInt8)), trivial⟩ rfl rfl rfl rfl (fun a240 c241 => ?_)
    refine mv rfl rfl ?_
    obtain ⟨k243, hj231⟩ := chk hj231
    refine ap et22 rfl rfl ((OV.rd 4 rfl)) k243 rfl (fun a244 c245 => ?_)
    refine WL.front 1 ?_
    refine WL.freeze (fun J246 hJ247 h248 => ?_)
    have hI := hI.trans hJ247
    have lj231 := lj231.trans hJ247
    refine WL.freeze (fun J249 hJ250 h251 => ?_)
    have hI := hI.trans hJ250
    have lj231 := lj231.trans hJ250
    replace h248 := h248.up hJ250
    obtain ⟨x252, e253, hj231⟩ := bnd hj231
    refine call cl17 rfl rfl (W17 e253 h248 h251) (fun _ J254 _ hJ255 q256 => ?_)
    have hI := hI.trans hJ255
    have lj231 := lj231.trans hJ255
    replace h248 := h248.up hJ255; replace h251 := h251.up hJ255
    obtain ⟨rfl, rfl⟩ := q256
    refine nt rfl rfl ?_
    refine mv rfl rfl ?_
    rcases spl hj231 with ⟨k257, hj231⟩ | ⟨k257, hj231⟩
    · skip
      refine WL.rb 38 rfl (bt1n k257) ?_
      refine WL.on rfl rfl ?_
      refine mv rfl rfl ?_
      refine WL.on rfl rfl ?_
      refine mv rfl rfl ?_
      refine WL.on rfl rfl ?_
      obtain ⟨x258, e259, hj231⟩ := bnd hj231
      refine call cl40 rfl rfl (W40 e259) (fun _ J260 _ hJ261 q262 => ?_)
      have hI := hI.trans hJ261
      have lj231 := lj231.trans hJ261
      replace h248 := h248.up hJ261; replace h251 := h251.up hJ261
      obtain ⟨a263, c264, rfl, rfl⟩ := q262
      refine WL.on rfl rfl ?_
      refine bs (os := [.const (.int .u8 7)]) (xs := ([(7 : UInt8)] : List UInt8)) et22 rfl rfl ⟨(Rv.of_u8 _ (7 : UInt8)), trivial⟩ rfl rfl rfl rfl (fun a266 c267 => ?_)
      refine WL.on rfl rfl ?_
      refine mv rfl rfl ?_
      refine WL.on rfl rfl ?_
      obtain ⟨k269, hj231⟩ := chk hj231
      refine ap et22 rfl rfl ((OV.rd 3 rfl)) k269 rfl (fun a270 c271 => ?_)
      refine WL.on rfl rfl ?_
      refine WL.front 1 ?_
      refine WL.freeze (fun J272 hJ273 h274 => ?_)
      have hI := hI.trans hJ273
      have lj231 := lj231.trans hJ273
      replace h248 := h248.up hJ273; replace h251 := h251.up hJ273
      refine WL.freeze (fun J275 hJ276 h277 => ?_)
      have hI := hI.trans hJ276
      have lj231 := lj231.trans hJ276
      replace h248 := h248.up hJ276; replace h251 := h251.up hJ276; replace h274 := h274.up hJ276
      obtain ⟨x278, e279, hj231⟩ := bnd hj231
      refine call cl17 rfl rfl (W17 e279 h274 h277) (fun _ J280 _ hJ281 q282 => ?_)
      have hI := hI.trans hJ281
      have lj231 := lj231.trans hJ281
      replace h248 := h248.up hJ281; replace h251 := h251.up hJ281; replace h274 := h274.up hJ281; replace h277 := h277.up hJ281
      obtain ⟨rfl, rfl⟩ := q282
      refine WL.on rfl rfl ?_
      refine nt rfl rfl ?_
      refine pkF rfl rfl rfl ?_
      refine mv rfl rfl ?_
      rcases spl hj231 with ⟨k283, hj231⟩ | ⟨k283, hj231⟩
      · skip
        refine WL.rb 48 rfl (bt1n k283) ?_
        refine WL.on rfl rfl ?_
        refine mv rfl rfl ?_
        refine WL.on rfl rfl ?_
        refine WL.front 3 ?_
        refine WL.freeze (fun J284 hJ285 h286 => ?_)
        have hI := hI.trans hJ285
        have lj231 := lj231.trans hJ285
        replace h248 := h248.up hJ285; replace h251 := h251.up hJ285; replace h274 := h274.up hJ285; replace h277 := h277.up hJ285
        obtain ⟨x287, e288, hj231⟩ := bnd hj231
        refine call cl41 rfl rfl (W41 e288 h286) (fun _ J289 _ hJ290 q291 => ?_)
        have hI := hI.trans hJ290
        have lj231 := lj231.trans hJ290
        replace h286 := h286.up hJ290; replace h248 := h248.up hJ290; replace h251 := h251.up hJ290; replace h274 := h274.up hJ290; replace h277 := h277.up hJ290
        obtain ⟨a292, c293, rfl, rfl⟩ := q291
        refine WL.on rfl rfl ?_
        refine mv rfl rfl ?_
        refine WL.on rfl rfl ?_
        refine ln et22 rfl (OV.rd 1 rfl) rfl ?_
        refine WL.on rfl rfl ?_
        refine cv8 Try.underlying3 Try.underlying5 rfl rfl ?_
        refine WL.on rfl rfl ?_
        refine bs (os := [.tmp 53]) (xs := ([(u8of (x58.length : Int))] : List UInt8)) et22 rfl rfl ⟨(Rv.of_u8 _ (u8of (x58.length : Int))), trivial⟩ rfl rfl rfl rfl (fun a295 c296 => ?_)
        refine WL.on rfl rfl ?_
        refine mv rfl rfl ?_
        refine WL.on rfl rfl ?_
        obtain ⟨k298, hj231⟩ := chk hj231
        obtain ⟨x301, e302, hj231⟩ := bnd hj231
        refine ap et22 rfl rfl ((OV.rd 2 rfl)) k298 rfl (fun a299 c300 => ?_)
        refine WL.ren (Option.some.inj e302) ?_
        refine WL.on rfl rfl ?_
        refine WL.front 1 ?_
        refine WL.freeze (fun J303 hJ304 h305 => ?_)
        have hI := hI.trans hJ304
        have lj231 := lj231.trans hJ304
        replace h286 := h286.up hJ304; replace h248 := h248.up hJ304; replace h251 := h251.up hJ304; replace h274 := h274.up hJ304; replace h277 := h277.up hJ304
        refine WL.freeze (fun J306 hJ307 h308 => ?_)
        have hI := hI.trans hJ307
        have lj231 := lj231.trans hJ307
        replace h286 := h286.up hJ307; replace h248 := h248.up hJ307; replace h251 := h251.up hJ307; replace h274 := h274.up hJ307; replace h277 := h277.up hJ307; replace h305 := h305.up hJ307
        obtain ⟨x309, e310, hj231⟩ := bnd hj231
        refine call cl17 rfl rfl (W17 e310 h305 h308) (fun _ J311 _ hJ312 q313 => ?_)
        have hI := hI.trans hJ312
        have lj231 := lj231.trans hJ312
        replace h286 := h286.up hJ312; replace h248 := h248.up hJ312; replace h251 := h251.up hJ312; replace h274 := h274.up hJ312; replace h277 := h277.up hJ312; replace h305 := h305.up hJ312; replace h308 := h308.up hJ312
        obtain ⟨rfl, rfl⟩ := q313
        refine WL.on rfl rfl ?_
        refine nt rfl rfl ?_
        refine pkF rfl rfl rfl ?_
        refine WL.del 0 ?_
        refine WL.del 0 ?_
        refine WL.del 0 ?_
        refine WL.nil ?_
        exact (kj231 (!x309) _ lj231 (Option.some.inj hj231)).sub ⟨rfl, rfl, rfl, trivial⟩
      refine WL.rb 48 rfl (bf1n k283) ?_
      refine WL.no rfl rfl rfl rfl ?_
      refine WL.no rfl rfl rfl rfl ?_
      refine WL.no rfl rfl rfl rfl ?_
      refine WL.no rfl rfl rfl rfl ?_
      refine WL.no rfl rfl rfl rfl ?_
      refine WL.no rfl rfl rfl rfl ?_
      refine WL.no rfl rfl rfl rfl ?_
      refine WL.no rfl rfl rfl rfl ?_
      refine WL.no rfl rfl rfl rfl ?_
      refine WL.no rfl rfl rfl rfl ?_
      refine pkT rfl rfl rfl ?_
      refine WL.del 0 ?_
      refine WL.del 0 ?_
      refine WL.del 0 ?_
      refine WL.del 0 ?_
      refine WL.nil ?_
      exact (kj231 true _ lj231 (Option.some.inj hj231)).sub ⟨rfl, rfl, rfl, trivial⟩
    refine WL.rb 38 rfl (bf1n k257) ?_
    refine WL.no rfl rfl rfl rfl ?_
    refine WL.no rfl rfl rfl rfl ?_
    refine WL.no rfl rfl rfl rfl ?_
    refine WL.no rfl rfl rfl rfl ?_
    refine WL.no rfl rfl rfl rfl ?_
    refine WL.no rfl rfl rfl rfl ?_
    refine WL.no rfl rfl rfl rfl ?_
    refine WL.no rfl rfl rfl rfl ?_
    refine pkT rfl rfl rfl ?_
    refine mv rfl rfl ?_
    refine WL.no rfl rfl rfl rfl ?_
    refine WL.no rfl rfl rfl rfl ?_
    refine WL.no rfl rfl rfl rfl ?_
    refine WL.no rfl rfl rfl rfl ?_
    refine WL.no rfl rfl rfl rfl ?_
    refine WL.no rfl rfl rfl rfl ?_
    refine WL.no rfl rfl rfl rfl ?_
    refine WL.no rfl rfl rfl rfl ?_
    refine WL.no rfl rfl rfl rfl ?_
    refine WL.no rfl rfl rfl rfl ?_
    refine pkT rfl rfl rfl ?_
    refine WL.del 0 ?_
    refine WL.del 0 ?_
    refine WL.del 0 ?_
    refine WL.del 0 ?_
    refine WL.nil ?_
    exact (kj231 true _ lj231 (Option.some.inj hj231)).sub ⟨rfl, rfl, rfl, trivial⟩
  rintro x230 J314 hJ315 rfl
  have hI := hI.trans hJ315
  refine WX.then_ ?_
  refine WC.iteb rfl h (fun k316 h => ?_) (fun k316 h => ?_)
  · skip
    refine WC.seq ?_
    refine WC.region ?_
    refine asg rfl rfl ?_
    refine WL.next ?_
    refine WC.ret ?_
    refine WX.then_ret ?_
    cases h
    exact ret1 Try.results8 rfl hI ⟨rfl, rfl⟩
  refine WC.skip ?_
  refine WX.then_ ?_
  refine WC.seq ?_
  refine WC.region ?_
  obtain ⟨x317, e318, h⟩ := bnd h
  refine call cl39 rfl rfl (W39 e318) (fun _ J319 _ hJ320 q321 => ?_)
  have hI := hI.trans hJ320
  obtain ⟨a322, c323, rfl, rfl⟩ := q321
  refine ln et22 rfl (OV.rd 0 rfl) rfl ?_
  refine eq rfl rfl rfl ?_
  refine mv rfl rfl ?_
  rcases spl h with ⟨k325, h⟩ | ⟨k325, h⟩
  · skip
    refine WL.rb 63 rfl (bT k325) ?_
    refine WL.on rfl rfl ?_
    refine mv rfl rfl ?_
    refine WL.on rfl rfl ?_
    refine ng rfl rfl ?_
    refine WL.on rfl rfl ?_
    obtain ⟨x326, e327, h⟩ := bnd h
    refine call cl39 rfl rfl (W39 e327) (fun _ J328 _ hJ329 q330 => ?_)
    have hI := hI.trans hJ329
    obtain ⟨a331, c332, rfl, rfl⟩ := q330
    refine WL.on rfl rfl ?_
    refine ln et22 rfl (OV.rd 0 rfl) rfl ?_
    refine WL.on rfl rfl ?_
    refine eq rfl rfl rfl ?_
    refine pkT rfl rfl rfl ?_
    refine mv rfl rfl ?_
    rcases spl h with ⟨k334, h⟩ | ⟨k334, h⟩
    · skip
      refine WL.rb 70 rfl (bT k334) ?_
      refine WL.on rfl rfl ?_
      obtain ⟨x335, e336, h⟩ := bnd h
      refine call cl39 rfl rfl (W39 e336) (fun _ J337 _ hJ338 q339 => ?_)
      have hI := hI.trans hJ338
      obtain ⟨a340, c341, rfl, rfl⟩ := q339
      refine WL.on rfl rfl ?_
      refine ln et22 rfl (OV.rd 0 rfl) rfl ?_
      refine WL.on rfl rfl ?_
      refine eq rfl rfl rfl ?_
      refine pkT rfl rfl rfl ?_
      refine mv rfl rfl ?_
      rcases spl h with ⟨k343, h⟩ | ⟨k343, h⟩
      · skip
        refine WL.rb 75 rfl (bT k343) ?_
        refine WL.on rfl rfl ?_
        refine mv rfl rfl ?_
        refine WL.on rfl rfl ?_
        obtain ⟨x344, e345, h⟩ := bnd h
        refine call cl40 rfl rfl (W40 e345) (fun _ J346 _ hJ347 q348 => ?_)
        have hI := hI.trans hJ347
        obtain ⟨a349, c350, rfl, rfl⟩ := q348
        refine WL.on rfl rfl ?_
        refine ln et22 rfl (OV.rd 0 rfl) rfl ?_
        refine WL.on rfl rfl ?_
        refine eq rfl rfl rfl ?_
        refine pkT rfl rfl rfl ?_
        refine mv rfl rfl ?_
        rcases spl h with ⟨k352, h⟩ | ⟨k352, h⟩
        · skip
          refine WL.rb 81 rfl (bT k352) ?_
          refine WL.on rfl rfl ?_
          refine mv rfl rfl ?_
          refine WL.on rfl rfl ?_
          refine mv rfl rfl ?_
          refine WL.on rfl rfl ?_
          refine su rfl rfl rfl ?_
          refine WL.on rfl rfl ?_
          obtain ⟨x353, e354, h⟩ := bnd h
          refine call cl40 rfl rfl (W40 e354) (fun _ J355 _ hJ356 q357 => ?_)
          have hI := hI.trans hJ356
          obtain ⟨a358, c359, rfl, rfl⟩ := q357
          refine WL.on rfl rfl ?_
          refine ln et22 rfl (OV.rd 0 rfl) rfl ?_
          refine WL.on rfl rfl ?_
          refine eq rfl rfl rfl ?_
          refine pkT rfl rfl rfl ?_
          refine mv rfl rfl ?_
          rcases spl h with ⟨k361, h⟩ | ⟨k361, h⟩
          · skip
            refine WL.rb 89 rfl (bT k361) ?_
            refine WL.on rfl rfl ?_
            obtain ⟨k362, h⟩ := chk h
            refine ms (z := (0 : UInt8)) et22 rfl rfl rfl rfl k362 rfl (fun a363 c364 => ?_)
            refine WL.on rfl rfl ?_
            refine WL.freeze (fun J366 hJ367 h368 => ?_)
            have hI := hI.trans hJ367
            obtain ⟨x369, e370, h⟩ := bnd h
            refine call cl41 rfl rfl (W41 e370 h368) (fun _ J371 _ hJ372 q373 => ?_)
            have hI := hI.trans hJ372
            replace h368 := h368.up hJ372
            obtain ⟨a374, c375, rfl, rfl⟩ := q373
            refine WL.on rfl rfl ?_
            refine ln et22 rfl (OV.rd 0 rfl) rfl ?_
            refine WL.on rfl rfl ?_
            refine eq rfl rfl rfl ?_
            refine pkT rfl rfl rfl ?_
            refine mv rfl rfl ?_
            rcases spl h with ⟨k377, h⟩ | ⟨k377, h⟩
            · skip
              refine WL.rb 95 rfl (bT k377) ?_
              refine WL.on rfl rfl ?_
              obtain ⟨k378, h⟩ := chk h
              refine ms (z := (0 : UInt8)) et22 rfl rfl rfl rfl k378 rfl (fun a379 c380 => ?_)
              refine WL.on rfl rfl ?_
              refine WL.freeze (fun J382 hJ383 h384 => ?_)
              have hI := hI.trans hJ383
              replace h368 := h368.up hJ383
              obtain ⟨x385, e386, h⟩ := bnd h
              refine call cl41 rfl rfl (W41 e386 h384) (fun _ J387 _ hJ388 q389 => ?_)
              have hI := hI.trans hJ388
              replace h368 := h368.up hJ388; replace h384 := h384.up hJ388
              obtain ⟨a390, c391, rfl, rfl⟩ := q389
              refine WL.on rfl rfl ?_
              refine ln et22 rfl (OV.rd 0 rfl) rfl ?_
              refine WL.on rfl rfl ?_
              refine eq rfl rfl rfl ?_
              refine pkT rfl rfl rfl ?_
              refine mv rfl rfl ?_
              rcases spl h with ⟨k393, h⟩ | ⟨k393, h⟩
              · skip
                refine WL.rb 101 rfl (bT k393) ?_
                refine WL.on rfl rfl ?_
                obtain ⟨x394, e395, h⟩ := bnd h
                refine call cl42 rfl rfl (W42 e395) (fun _ J396 _ hJ397 q398 => ?_)
                have hI := hI.trans hJ397
                replace h368 := h368.up hJ397; replace h384 := h384.up hJ397
                obtain ⟨rfl, rfl⟩ := q398
                refine pkT rfl rfl rfl ?_
                refine asg rfl rfl ?_
                refine WL.del 0 ?_
                refine WL.del 0 ?_
                refine WL.del 0 ?_
                refine WL.del 0 ?_
                refine WL.del 0 ?_
                refine WL.del 0 ?_
                refine WL.del 0 ?_
                refine WL.next ?_
                refine WC.ret ?_
                cases h
                exact ret1 Try.results8 rfl hI ⟨rfl, rfl⟩
              refine WL.rb 101 rfl (bF k393) ?_
              refine WL.no rfl rfl rfl rfl ?_
              refine pkF rfl rfl rfl ?_
              refine asg rfl rfl ?_
              refine WL.del 0 ?_
              refine WL.del 0 ?_
              refine WL.del 0 ?_
              refine WL.del 0 ?_
              refine WL.del 0 ?_
              refine WL.del 0 ?_
              refine WL.del 0 ?_
              refine WL.next ?_
              refine WC.ret ?_
              cases h
              exact ret1 Try.results8 rfl hI ⟨rfl, rfl⟩
            refine WL.rb 95 rfl (bF k377) ?_
            refine WL.no rfl rfl rfl rfl ?_
            refine WL.no rfl rfl rfl rfl ?_
            refine WL.no rfl rfl rfl rfl ?_
            refine WL.no rfl rfl rfl rfl ?_
            refine pkF rfl rfl rfl ?_
            refine mv rfl rfl ?_
            refine WL.no rfl rfl rfl rfl ?_
            refine pkF rfl rfl rfl ?_
            refine asg rfl rfl ?_
            refine WL.del 0 ?_
            refine WL.del 0 ?_
            refine WL.del 0 ?_
            refine WL.del 0 ?_
            refine WL.del 0 ?_
            refine WL.del 0 ?_
            refine WL.next ?_
            refine WC.ret ?_
            cases h
            exact ret1 Try.results8 rfl hI ⟨rfl, rfl⟩
          refine WL.rb 89 rfl (bF k361) ?_
          refine WL.no rfl rfl rfl rfl ?_
          refine WL.no rfl rfl rfl rfl ?_
          refine WL.no rfl rfl rfl rfl ?_
          refine WL.no rfl rfl rfl rfl ?_
          refine pkF rfl rfl rfl ?_
          refine mv rfl rfl ?_
          refine WL.no rfl rfl rfl rfl ?_
          refine WL.no rfl rfl rfl rfl ?_
          refine WL.no rfl rfl rfl rfl ?_
          refine WL.no rfl rfl rfl rfl ?_
          refine pkF rfl rfl rfl ?_
          refine mv rfl rfl ?_
          refine WL.no rfl rfl rfl rfl ?_
          refine pkF rfl rfl rfl ?_
          refine asg rfl rfl ?_
          refine WL.del 0 ?_
          refine WL.del 0 ?_
          refine WL.del 0 ?_
          refine WL.del 0 ?_
          refine WL.del 0 ?_
          refine WL.next ?_
          refine WC.ret ?_
          cases h
          exact ret1 Try.results8 rfl hI ⟨rfl, rfl⟩
        refine WL.rb 81 rfl (bF k352) ?_
        refine WL.no rfl rfl rfl rfl ?_
        refine WL.no rfl rfl rfl rfl ?_
        refine WL.no rfl rfl rfl rfl ?_
        refine WL.no rfl rfl rfl rfl ?_
        refine WL.no rfl rfl rfl rfl ?_
        refine WL.no rfl rfl rfl rfl ?_
        refine pkF rfl rfl rfl ?_
        refine mv rfl rfl ?_
        refine WL.no rfl rfl rfl rfl ?_
        refine WL.no rfl rfl rfl rfl ?_
        refine WL.no rfl rfl rfl rfl ?_
        refine WL.no rfl rfl rfl rfl ?_
        refine pkF rfl rfl rfl ?_
        refine mv rfl rfl ?_
        refine WL.no rfl rfl rfl rfl ?_
        refine WL.no rfl rfl rfl rfl ?_
        refine WL.no rfl rfl rfl rfl ?_
        refine WL.no rfl rfl rfl rfl ?_
        refine pkF rfl rfl rfl ?_
        refine mv rfl rfl ?_
        refine WL.no rfl rfl rfl rfl ?_
        refine pkF rfl rfl rfl ?_
        refine asg rfl rfl ?_
        refine WL.del 0 ?_
        refine WL.del 0 ?_
        refine WL.del 0 ?_
        refine WL.del 0 ?_
        refine WL.next ?_
        refine WC.ret ?_
        cases h
        exact ret1 Try.results8 rfl hI ⟨rfl, rfl⟩
      refine WL.rb 75 rfl (bF k343) ?_
      refine WL.no rfl rfl rfl rfl ?_
      refine WL.no rfl rfl rfl rfl ?_
      refine WL.no rfl rfl rfl rfl ?_
      refine WL.no rfl rfl rfl rfl ?_
      refine pkF rfl rfl rfl ?_
      refine mv rfl rfl ?_
      refine WL.no rfl rfl rfl rfl ?_
      refine WL.no rfl rfl rfl rfl ?_
      refine WL.no rfl rfl rfl rfl ?_
      refine WL.no rfl rfl rfl rfl ?_
      refine WL.no rfl rfl rfl rfl ?_
      refine WL.no rfl rfl rfl rfl ?_
      refine pkF rfl rfl rfl ?_
      refine mv rfl rfl ?_
      refine WL.no rfl rfl rfl rfl ?_
      refine WL.no rfl rfl rfl rfl ?_
      refine WL.no rfl rfl rfl rfl ?_
      refine WL.no rfl rfl rfl rfl ?_
      refine pkF rfl rfl rfl ?_
      refine mv rfl rfl ?_
      refine WL.no rfl rfl rfl rfl ?_
      refine WL.no rfl rfl rfl rfl ?_
      refine WL.no rfl rfl rfl rfl ?_
      refine WL.no rfl rfl rfl rfl ?_
      refine pkF rfl rfl rfl ?_
      refine mv rfl rfl ?_
      refine WL.no rfl rfl rfl rfl ?_
      refine pkF rfl rfl rfl ?_
      refine asg rfl rfl ?_
      refine WL.del 0 ?_
      refine WL.del 0 ?_
      refine WL.del 0 ?_
      refine WL.next ?_
      refine WC.ret ?_
      cases h
      exact ret1 Try.results8 rfl hI ⟨rfl, rfl⟩
    refine WL.rb 70 rfl (bF k334) ?_
    refine WL.no rfl rfl rfl rfl ?_
    refine WL.no rfl rfl rfl rfl ?_
    refine WL.no rfl rfl rfl rfl ?_
    refine pkF rfl rfl rfl ?_
    refine mv rfl rfl ?_
    refine WL.no rfl rfl rfl rfl ?_
    refine WL.no rfl rfl rfl rfl ?_
    refine WL.no rfl rfl rfl rfl ?_
    refine WL.no rfl rfl rfl rfl ?_
    refine pkF rfl rfl rfl ?_
    refine mv rfl rfl ?_
    refine WL.no rfl rfl rfl rfl ?_
    refine WL.no rfl rfl rfl rfl ?_
    refine WL.no rfl rfl rfl rfl ?_
    refine WL.no rfl rfl rfl rfl ?_
    refine WL.no rfl rfl rfl rfl ?_
    refine WL.no rfl rfl rfl rfl ?_
    refine pkF rfl rfl rfl ?_
    refine mv rfl rfl ?_
    refine WL.no rfl rfl rfl rfl ?_
    refine WL.no rfl rfl rfl rfl ?_
    refine WL.no rfl rfl rfl rfl ?_
    refine WL.no rfl rfl rfl rfl ?_
    refine pkF rfl rfl rfl ?_
    refine mv rfl rfl ?_
    refine WL.no rfl rfl rfl rfl ?_
    refine WL.no rfl rfl rfl rfl ?_
    refine WL.no rfl rfl rfl rfl ?_
    refine WL.no rfl rfl rfl rfl ?_
    refine pkF rfl rfl rfl ?_
    refine mv rfl rfl ?_
    refine WL.no rfl rfl rfl rfl ?_
    refine pkF rfl rfl rfl ?_
    refine asg rfl rfl ?_
    refine WL.del 0 ?_
    refine WL.del 0 ?_
    refine WL.next ?_
    refine WC.ret ?_
    cases h
    exact ret1 Try.results8 rfl hI ⟨rfl, rfl⟩
  refine WL.rb 63 rfl (bF k325) ?_
  refine WL.no rfl rfl rfl rfl ?_
  refine WL.no rfl rfl rfl rfl ?_
  refine WL.no rfl rfl rfl rfl ?_
  refine WL.no rfl rfl rfl rfl ?_
  refine WL.no rfl rfl rfl rfl ?_
  refine pkF rfl rfl rfl ?_
  refine mv rfl rfl ?_
  refine WL.no rfl rfl rfl rfl ?_
  refine WL.no rfl rfl rfl rfl ?_
  refine WL.no rfl rfl rfl rfl ?_
  refine pkF rfl rfl rfl ?_
  refine mv rfl rfl ?_
  refine WL.no rfl rfl rfl rfl ?_
  refine WL.no rfl rfl rfl rfl ?_
  refine WL.no rfl rfl rfl rfl ?_
  refine WL.no rfl rfl rfl rfl ?_
  refine pkF rfl rfl rfl ?_
  refine mv rfl rfl ?_
  refine WL.no rfl rfl rfl rfl ?_
  refine WL.no rfl rfl rfl rfl ?_
  refine WL.no rfl rfl rfl rfl ?_
  refine WL.no rfl rfl rfl rfl ?_
  refine WL.no rfl rfl rfl rfl ?_
  refine WL.no rfl rfl rfl rfl ?_
  refine pkF rfl rfl rfl ?_
  refine mv rfl rfl ?_
  refine WL.no rfl rfl rfl rfl ?_
  refine WL.no rfl rfl rfl rfl ?_
  refine WL.no rfl rfl rfl rfl ?_
  refine WL.no rfl rfl rfl rfl ?_
  refine pkF rfl rfl rfl ?_
  refine mv rfl rfl ?_
  refine WL.no rfl rfl rfl rfl ?_
  refine WL.no rfl rfl rfl rfl ?_
  refine WL.no rfl rfl rfl rfl ?_
  refine WL.no rfl rfl rfl rfl ?_
  refine pkF rfl rfl rfl ?_
  refine mv rfl rfl ?_
  refine WL.no rfl rfl rfl rfl ?_
  refine pkF rfl rfl rfl ?_
  refine asg rfl rfl ?_
  refine WL.del 0 ?_
  refine WL.next ?_
  refine WC.ret ?_
  cases h
  exact ret1 Try.results8 rfl hI ⟨rfl, rfl⟩
theorem W9 {I : Mem} {G : List Asn} {p0 : Int} {p1 : Int} {p2 : Int} {p3 : List UInt8} {r : Bool} (h : haulierlaw09_SegmentEnds p0 p1 p2 p3 = some r) {u3 : Value} (hp3 : IV I u3 p3) :
    CallsS Try.prog 9 #[.int .i64 p0, .int .i64 p1, .int .i64 p2, u3] I (G) (fun v J G' => v = .bool r ∧ G = G') := by
  refine CallsS.enter Try.func9 rfl Try.ntmps9 rfl (fun w0 => ?_)
  have hI := Mem.le.refl I
  obtain ⟨a3, c3, rfl⟩ := hp3.hd
  unfold haulierlaw09_SegmentEnds at h
  refine WC.seq ?_
  refine WC.region ?_
  refine asg rfl rfl ?_
  refine WL.next ?_
  refine WC.seq ?_
  refine WC.region ?_
  refine mv rfl rfl ?_
  obtain ⟨x1, e2, h⟩ := bnd h
  refine call cl19 rfl rfl (W19 e2) (fun _ J3 _ hJ4 q5 => ?_)
  have hI := hI.trans hJ4
  replace hp3 := hp3.up hJ4
  obtain ⟨rfl, rfl⟩ := q5
  refine ad rfl rfl rfl ?_
  refine mv rfl rfl ?_
  obtain ⟨x6, e7, h⟩ := bnd h
  refine call cl19 rfl rfl (W19 e7) (fun _ J8 _ hJ9 q10 => ?_)
  have hI := hI.trans hJ9
  replace hp3 := hp3.up hJ9
  obtain ⟨rfl, rfl⟩ := q10
  refine asg rfl rfl ?_
  refine asg rfl rfl ?_
  refine WL.next ?_
  refine WC.seq ?_
  refine WC.region ?_
  refine mv rfl rfl ?_
  obtain ⟨x11, e12, h⟩ := bnd h
  refine call cl39 rfl rfl (W39 e12) (fun _ J13 _ hJ14 q15 => ?_)
  have hI := hI.trans hJ14
  replace hp3 := hp3.up hJ14
  obtain ⟨a16, c17, rfl, rfl⟩ := q15
  refine asg rfl rfl ?_
  refine WL.next ?_
  refine WC.seq ?_
  refine WC.seq ?_
  refine WC.region ?_
  refine asg rfl rfl ?_
  refine WL.next ?_
  obtain ⟨j65, hj65, h⟩ := bnd h
  refine WC.joinQ (σ := (List UInt8) × (Option Addr) × Nat) (fun (x62, a63, c64) => [(0, (.int .i64 (w64 (1 + x1)))), (1, (.int .i64 x6)), (2, (.int .i64 p2)), (3, (.slice a3 p3.length c3)), (9, (.slice a63 x62.length c64))]) (fun (x62, a63, c64) => OV 5 (.slice a63 x62.length c64) x62 :: G) (fun (x62, a63, c64) J => x62 = j65) (fun kj65 => ?_) ?_
  · skip
    have lj65 := Mem.le.refl J13
    refine WC.block ?_
    refine WC.loop (σ := (List UInt8) × Int × (Option Addr) × Nat) (fun k (x66, x69, a67, c68) => haulierlaw09_SegmentEnds_l0 x6 k x66 x69) _ (fun (x66, x69, a67, c68) => [(0, (.int .i64 (w64 (1 + x1)))), (1, (.int .i64 x6)), (2, (.int .i64 p2)), (3, (.slice a3 p3.length c3)), (9, (.slice a67 x66.length c68)), (10, (.int .i64 x69))]) (fun (x66, x69, a67, c68) => OV 5 (.slice a67 x66.length c68) x66 :: G) (fun (x66, x69, a67, c68) J => True) (fun ⟨x66, x69, a67, c68⟩ => rfl) bigN ⟨x11, 0, _, _⟩ hj65 trivial ⟨rfl, rfl, rfl, rfl, rfl, rfl, trivial⟩ rfl ?_
    rintro k0 ih0 ⟨x66, x69, a67, c68⟩ J89 hJ90 - hj65
    change haulierlaw09_SegmentEnds_l0 x6 (k0 + 1) x66 x69 = _ at hj65
    rw [haulierlaw09_SegmentEnds_l0] at hj65
    have hI := hI.trans hJ90
    have lj65 := lj65.trans hJ90
    replace hp3 := hp3.up hJ90
    have ll0 := hJ90
    refine WC.seq ?_
    refine WC.seq ?_
    refine WC.region ?_
    refine mv rfl rfl ?_
    refine mv rfl rfl ?_
    refine lt rfl rfl rfl ?_
    refine WL.next ?_
    refine WC.ite rfl hj65 (fun k91 hj65 => ?_) (fun k91 hj65 => ?_)
    · skip
      refine WC.skip ?_
      refine WX.then_ ?_
      refine WC.seq ?_
      refine WC.block ?_
      refine WC.region ?_
      refine mv rfl rfl ?_
      refine mv rfl rfl ?_
      refine cv8 Try.underlying3 Try.underlying5 rfl rfl ?_
      refine bs (os := [.tmp 35]) (xs := ([(u8of x69)] : List UInt8)) et22 rfl rfl ⟨(Rv.of_u8 _ (u8of x69)), trivial⟩ rfl rfl rfl rfl (fun a92 c93 => ?_)
      refine WL.freeze (fun J95 hJ96 h97 => ?_)
      have hI := hI.trans hJ96
      have lj65 := lj65.trans hJ96
      have ll0 := ll0.trans hJ96
      replace hp3 := hp3.up hJ96
      obtain ⟨x98, e99, hj65⟩ := bnd hj65
      refine call cl41 rfl rfl (W41 e99 h97) (fun _ J100 _ hJ101 q102 => ?_)
      have hI := hI.trans hJ101
      have lj65 := lj65.trans hJ101
      have ll0 := ll0.trans hJ101
      replace hp3 := hp3.up hJ101; replace h97 := h97.up hJ101
      obtain ⟨a103, c104, rfl, rfl⟩ := q102
      refine WL.front 1 ?_
      obtain ⟨k106, hj65⟩ := chk hj65
      refine ap et22 rfl rfl ((OV.rd 1 rfl)) k106 rfl (fun a107 c108 => ?_)
      refine asg rfl rfl ?_
      refine WL.del 1 ?_
      refine WL.nil ?_
      refine WX.block_normal ?_
      refine WX.then_ ?_
      refine WC.region ?_
      refine mv rfl rfl ?_
      refine ad rfl rfl rfl ?_
      refine asg rfl rfl ?_
      refine WL.nil ?_
      refine WX.round ?_
      exact (ih0 ⟨(x66 ++ x98), w64 (x69 + 1), _, _⟩ _ ll0 trivial hj65).sub ⟨rfl, rfl, rfl, rfl, rfl, rfl, trivial⟩
    refine WC.exit ?_
    refine WX.then_exit ?_
    refine WX.then_exit ?_
    refine WX.block_here ?_
    exact (kj65 ⟨x66, _, _⟩ _ lj65 (Option.some.inj hj65)).sub ⟨rfl, rfl, rfl, rfl, rfl, trivial⟩
  rintro ⟨x62, a63, c64⟩ J109 hJ110 rfl
  have hI := hI.trans hJ110
  replace hp3 := hp3.up hJ110
  refine WX.then_ ?_
  refine WC.seq ?_
  refine WC.region ?_
  refine mv rfl rfl ?_
  refine ln et22 rfl (OV.rd 0 rfl) rfl ?_
  refine asg rfl rfl ?_
  refine WL.next ?_
  refine WC.seq ?_
  refine WC.region ?_
  refine mv rfl rfl ?_
  refine WL.freeze (fun J111 hJ112 h113 => ?_)
  have hI := hI.trans hJ112
  replace hp3 := hp3.up hJ112
  obtain ⟨x114, e115, h⟩ := bnd h
  refine call cl43 rfl rfl (W43 e115 h113) (fun _ J116 _ hJ117 q118 => ?_)
  have hI := hI.trans hJ117
  replace hp3 := hp3.up hJ117; replace h113 := h113.up hJ117
  obtain ⟨a119, c120, rfl, rfl⟩ := q118
  refine mv rfl rfl ?_
  refine mv rfl rfl ?_
  obtain ⟨x122, e123, h⟩ := bnd h
  refine call cl40 rfl rfl (W40 e123) (fun _ J124 _ hJ125 q126 => ?_)
  have hI := hI.trans hJ125
  replace hp3 := hp3.up hJ125; replace h113 := h113.up hJ125
  obtain ⟨a127, c128, rfl, rfl⟩ := q126
  refine WL.front 1 ?_
  obtain ⟨k130, h⟩ := chk h
  refine ap et22 rfl rfl ((OV.rd 1 rfl)) k130 rfl (fun a131 c132 => ?_)
  refine asg rfl rfl ?_
  refine WL.del 1 ?_
  refine WL.next ?_
  refine WC.seq ?_
  refine WC.region ?_
  refine mv rfl rfl ?_
  refine WL.freeze (fun J133 hJ134 h135 => ?_)
  have hI := hI.trans hJ134
  replace hp3 := hp3.up hJ134; replace h113 := h113.up hJ134
  obtain ⟨x136, e137, h⟩ := bnd h
  refine call cl43 rfl rfl (W43 e137 h135) (fun _ J138 _ hJ139 q140 => ?_)
  have hI := hI.trans hJ139
  replace hp3 := hp3.up hJ139; replace h113 := h113.up hJ139; replace h135 := h135.up hJ139
  obtain ⟨a141, c142, rfl, rfl⟩ := q140
  refine mv rfl rfl ?_
  obtain ⟨x144, e145, h⟩ := bnd h
  refine call cl15 rfl rfl (W15 e145 hp3) (fun _ J146 _ hJ147 q148 => ?_)
  have hI := hI.trans hJ147
  replace hp3 := hp3.up hJ147; replace h113 := h113.up hJ147; replace h135 := h135.up hJ147
  obtain ⟨a149, c150, rfl, rfl⟩ := q148
  refine WL.front 1 ?_
  obtain ⟨k152, h⟩ := chk h
  refine ap et22 rfl rfl ((OV.rd 1 rfl)) k152 rfl (fun a153 c154 => ?_)
  refine bs (os := [.const (.int .u8 0)]) (xs := ([(0 : UInt8)] : List UInt8)) et22 rfl rfl ⟨(Rv.of_u8 _ (0 : UInt8)), trivial⟩ rfl rfl rfl rfl (fun a155 c156 => ?_)
  refine WL.front 1 ?_
  obtain ⟨k158, h⟩ := chk h
  obtain ⟨x161, e162, h⟩ := bnd h
  refine ap et22 rfl rfl ((OV.rd 1 rfl)) k158 rfl (fun a159 c160 => ?_)
  refine WL.ren (Option.some.inj e162) ?_
  refine asg rfl rfl ?_
  refine WL.del 1 ?_
  refine WL.del 1 ?_
  refine WL.next ?_
  refine WC.seq ?_
  refine WC.region ?_
  refine mv rfl rfl ?_
  refine WL.freeze (fun J163 hJ164 h165 => ?_)
  have hI := hI.trans hJ164
  replace hp3 := hp3.up hJ164; replace h113 := h113.up hJ164; replace h135 := h135.up hJ164
  obtain ⟨x166, e167, h⟩ := bnd h
  refine call cl44 rfl rfl (W44 e167 h165) (fun _ J168 _ hJ169 q170 => ?_)
  have hI := hI.trans hJ169
  replace hp3 := hp3.up hJ169; replace h113 := h113.up hJ169; replace h135 := h135.up hJ169; replace h165 := h165.up hJ169
  obtain ⟨a171, c172, rfl, h173, rfl⟩ := q170
  refine al Try.zeroValue56 rfl (fun g174 => ?_)
  refine sta (C' := #[(.int .i64 x166.Number), (.slice a171 x166.Records.length c172), (.int .i64 x166.Whole), (.bool x166.Sealed)]) sz56 rfl rfl rfl rfl rfl rfl ?_
  refine WL.next ?_
  refine WC.seq ?_
  refine WC.seq ?_
  obtain ⟨j183, hj183, h⟩ := bnd h
  refine WC.joinQ (σ := Bool) (fun x182 => [(0, (.int .i64 (w64 (1 + x1)))), (1, (.int .i64 x6)), (2, (.int .i64 p2)), (3, (.slice a3 p3.length c3)), (9, (.slice a63 x62.length c64)), (11, (.int .i64 (x62.length : Int))), (12, (.slice a131 (x114 ++ x122).length c132)), (77, (.bool x182))]) (fun x182 => G) (fun x182 J => x182 = j183) (fun kj183 => ?_) ?_
  · skip
    have lj183 := Mem.le.refl J168
    refine WC.region ?_
    refine fa fl56_3 rfl rfl ?_
    refine ld 0 na4 rfl rfl rfl rfl ?_
    refine mv rfl rfl ?_
    rcases spl hj183 with ⟨k184, hj183⟩ | ⟨k184, hj183⟩
    · skip
      refine WL.rb 58 rfl (bt1 k184) ?_
      refine WL.no rfl rfl rfl rfl ?_
      refine WL.no rfl rfl rfl rfl ?_
      refine WL.no rfl rfl rfl rfl ?_
      refine WL.no rfl rfl rfl rfl ?_
      refine WL.no rfl rfl rfl rfl ?_
      refine pkT rfl rfl rfl ?_
      refine mv rfl rfl ?_
      refine WL.no rfl rfl rfl rfl ?_
      refine WL.no rfl rfl rfl rfl ?_
      refine WL.no rfl rfl rfl rfl ?_
      refine WL.no rfl rfl rfl rfl ?_
      refine WL.no rfl rfl rfl rfl ?_
      refine pkT rfl rfl rfl ?_
      refine mv rfl rfl ?_
      refine WL.no rfl rfl rfl rfl ?_
      refine WL.no rfl rfl rfl rfl ?_
      refine WL.no rfl rfl rfl rfl ?_
      refine WL.no rfl rfl rfl rfl ?_
      refine pkT rfl rfl rfl ?_
      refine WL.del 0 ?_
      refine WL.nil ?_
      exact (kj183 true _ lj183 (Option.some.inj hj183)).sub ⟨rfl, rfl, rfl, rfl, rfl, rfl, rfl, rfl, trivial⟩
    refine WL.rb 58 rfl (bf1 k184) ?_
    refine WL.on rfl rfl ?_
    refine fa fl56_2 rfl rfl ?_
    refine WL.on rfl rfl ?_
    refine ld 0 na3 rfl rfl rfl rfl ?_
    refine WL.on rfl rfl ?_
    refine mv rfl rfl ?_
    refine WL.on rfl rfl ?_
    refine ln et22 rfl (h135.rd) rfl ?_
    refine WL.on rfl rfl ?_
    refine ne rfl rfl rfl ?_
    refine pkF rfl rfl rfl ?_
    refine mv rfl rfl ?_
    rcases spl hj183 with ⟨k185, hj183⟩ | ⟨k185, hj183⟩
    · skip
      refine WL.rb 65 rfl (bT k185) ?_
      refine WL.no rfl rfl rfl rfl ?_
      refine WL.no rfl rfl rfl rfl ?_
      refine WL.no rfl rfl rfl rfl ?_
      refine WL.no rfl rfl rfl rfl ?_
      refine WL.no rfl rfl rfl rfl ?_
      refine pkT rfl rfl rfl ?_
      refine mv rfl rfl ?_
      refine WL.no rfl rfl rfl rfl ?_
      refine WL.no rfl rfl rfl rfl ?_
      refine WL.no rfl rfl rfl rfl ?_
      refine WL.no rfl rfl rfl rfl ?_
      refine pkT rfl rfl rfl ?_
      refine WL.del 0 ?_
      refine WL.nil ?_
      exact (kj183 true _ lj183 (Option.some.inj hj183)).sub ⟨rfl, rfl, rfl, rfl, rfl, rfl, rfl, rfl, trivial⟩
    refine WL.rb 65 rfl (bF k185) ?_
    refine WL.on rfl rfl ?_
    refine fa fl56_1 rfl rfl ?_
    refine WL.on rfl rfl ?_
    refine ld 0 na37 rfl rfl rfl rfl ?_
    refine WL.on rfl rfl ?_
    refine ln et37 rfl (h173.rd) rfl ?_
    refine WL.on rfl rfl ?_
    refine mv rfl rfl ?_
    refine WL.on rfl rfl ?_
    refine ne rfl rfl rfl ?_
    refine pkF rfl rfl rfl ?_
    refine mv rfl rfl ?_
    rcases spl hj183 with ⟨k186, hj183⟩ | ⟨k186, hj183⟩
    · skip
      refine WL.rb 72 rfl (bT k186) ?_
      refine WL.no rfl rfl rfl rfl ?_
      refine WL.no rfl rfl rfl rfl ?_
      refine WL.no rfl rfl rfl rfl ?_
      refine WL.no rfl rfl rfl rfl ?_
      refine pkT rfl rfl rfl ?_
      refine WL.del 0 ?_
      refine WL.nil ?_
      exact (kj183 true _ lj183 (Option.some.inj hj183)).sub ⟨rfl, rfl, rfl, rfl, rfl, rfl, rfl, rfl, trivial⟩
    refine WL.rb 72 rfl (bF k186) ?_
    refine WL.on rfl rfl ?_
    refine fa fl56_0 rfl rfl ?_
    refine WL.on rfl rfl ?_
    refine ld 0 na3 rfl rfl rfl rfl ?_
    refine WL.on rfl rfl ?_
    refine mv rfl rfl ?_
    refine WL.on rfl rfl ?_
    refine ne rfl rfl rfl ?_
    refine pkF rfl rfl rfl ?_
    refine WL.del 0 ?_
    refine WL.nil ?_
    exact (kj183 (decide (x166.Number ≠ (w64 (1 + x1)))) _ lj183 (Option.some.inj hj183)).sub ⟨rfl, rfl, rfl, rfl, rfl, rfl, rfl, rfl, trivial⟩
  rintro x182 J187 hJ188 rfl
  have hI := hI.trans hJ188
  replace hp3 := hp3.up hJ188; replace h113 := h113.up hJ188; replace h135 := h135.up hJ188
  refine WX.then_ ?_
  refine WC.iteb rfl h (fun k189 h => ?_) (fun k189 h => ?_)
  · skip
    refine WC.seq ?_
    refine WC.region ?_
    refine asg rfl rfl ?_
    refine WL.next ?_
    refine WC.ret ?_
    refine WX.then_ret ?_
    cases h
    exact ret1 Try.results9 rfl hI ⟨rfl, rfl⟩
  refine WC.skip ?_
  refine WX.then_ ?_
  refine WC.seq ?_
  refine WC.region ?_
  refine mv rfl rfl ?_
  obtain ⟨x190, e191, h⟩ := bnd h
  refine call cl19 rfl rfl (W19 e191) (fun _ J192 _ hJ193 q194 => ?_)
  have hI := hI.trans hJ193
  replace hp3 := hp3.up hJ193; replace h113 := h113.up hJ193; replace h135 := h135.up hJ193
  obtain ⟨rfl, rfl⟩ := q194
  refine ad rfl rfl rfl ?_
  refine asg rfl rfl ?_
  refine WL.next ?_
  refine WC.seq ?_
  refine WC.seq ?_
  refine WC.region ?_
  refine mv rfl rfl ?_
  refine mv rfl rfl ?_
  refine ad rfl rfl rfl ?_
  obtain ⟨x195, e196, h⟩ := bnd h
  refine WL.re (congrArg (Value.int .i64) (Option.some.inj e196)) ?_
  refine mv rfl rfl ?_
  obtain ⟨x197, e198, h⟩ := bnd h
  refine call cl40 rfl rfl (W40 e198) (fun _ J199 _ hJ200 q201 => ?_)
  have hI := hI.trans hJ200
  replace hp3 := hp3.up hJ200; replace h113 := h113.up hJ200; replace h135 := h135.up hJ200
  obtain ⟨a202, c203, rfl, rfl⟩ := q201
  refine mv rfl rfl ?_
  refine mv rfl rfl ?_
  refine mv rfl rfl ?_
  refine ad rfl rfl rfl ?_
  obtain ⟨x205, e206, h⟩ := bnd h
  refine call cl40 rfl rfl (W40 e206) (fun _ J207 _ hJ208 q209 => ?_)
  have hI := hI.trans hJ208
  replace hp3 := hp3.up hJ208; replace h113 := h113.up hJ208; replace h135 := h135.up hJ208
  obtain ⟨a210, c211, rfl, rfl⟩ := q209
  refine mv rfl rfl ?_
  obtain ⟨x213, e214, h⟩ := bnd h
  refine call cl39 rfl rfl (W39 e214) (fun _ J215 _ hJ216 q217 => ?_)
  have hI := hI.trans hJ216
  replace hp3 := hp3.up hJ216; replace h113 := h113.up hJ216; replace h135 := h135.up hJ216
  obtain ⟨a218, c219, rfl, rfl⟩ := q217
  refine WL.front 2 ?_
  refine WL.freeze (fun J224 hJ225 h226 => ?_)
  have hI := hI.trans hJ225
  replace hp3 := hp3.up hJ225; replace h113 := h113.up hJ225; replace h135 := h135.up hJ225
  refine WL.front 1 ?_
  refine WL.freeze (fun J227 hJ228 h229 => ?_)
  have hI := hI.trans hJ228
  replace hp3 := hp3.up hJ228; replace h113 := h113.up hJ228; replace h135 := h135.up hJ228; replace h226 := h226.up hJ228
  refine WL.freeze (fun J230 hJ231 h232 => ?_)
  have hI := hI.trans hJ231
  replace hp3 := hp3.up hJ231; replace h113 := h113.up hJ231; replace h135 := h135.up hJ231; replace h226 := h226.up hJ231; replace h229 := h229.up hJ231
  refine bs (os := [.tmp 85, .tmp 90, .tmp 92]) (xs := ([x197, x205, x213] : List (List UInt8))) et37 rfl rfl ⟨(h226).rv, (h229).rv, (h232).rv, trivial⟩ rfl rfl rfl rfl (fun a221 c222 => ?_)
  refine ln et37 rfl (OV.rd 0 rfl) rfl ?_
  refine mv rfl rfl ?_
  refine WL.next ?_
  obtain ⟨j317, hj317, h⟩ := bnd h
  refine WC.joinQ (σ := Unit) (fun _ => [(0, (.int .i64 (w64 (1 + x1)))), (3, (.slice a3 p3.length c3)), (12, (.slice a131 (x114 ++ x122).length c132))]) (fun _ => G) (fun _ J => Sum.inr () = j317) (fun kj317 => ?_) ?_
  · skip
    have lj317 := Mem.le.refl J230
    refine WC.block ?_
    refine WC.loop (σ := Int) (fun k x318 => haulierlaw09_SegmentEnds_l1 x1 x6 x62 x197 x205 x213 k x318) _ (fun x318 => [(0, (.int .i64 (w64 (1 + x1)))), (1, (.int .i64 x6)), (3, (.slice a3 p3.length c3)), (9, (.slice a63 x62.length c64)), (11, (.int .i64 (x62.length : Int))), (12, (.slice a131 (x114 ++ x122).length c132)), (93, (.slice a221 ([x197, x205, x213]).length c222)), (94, (.int .i64 (([x197, x205, x213] : List (List UInt8)).length : Int))), (95, (.int .i64 x318))]) (fun x318 => OV 22 (.slice a221 ([x197, x205, x213]).length c222) ([x197, x205, x213] : List (List UInt8)) :: G) (fun x318 J => True) (fun x318 => rfl) bigN 0 hj317 trivial ⟨rfl, rfl, rfl, rfl, rfl, rfl, rfl, rfl, rfl, trivial⟩ rfl ?_
    rintro k1 ih1 x318 J360 hJ361 - hj317
    change haulierlaw09_SegmentEnds_l1 x1 x6 x62 x197 x205 x213 (k1 + 1) x318 = _ at hj317
    rw [haulierlaw09_SegmentEnds_l1] at hj317
    have hI := hI.trans hJ361
    have lj317 := lj317.trans hJ361
    replace hp3 := hp3.up hJ361; replace h113 := h113.up hJ361; replace h135 := h135.up hJ361
    have ll1 := hJ361
    refine WC.seq ?_
    refine WC.region ?_
    refine lt rfl rfl rfl ?_
    obtain ⟨x362, e363, hj317⟩ := bnd hj317
    refine WL.re (congrArg Value.bool (Option.some.inj e363)) ?_
    refine WL.next ?_
    refine WC.seq ?_
    refine WC.iteb rfl hj317 (fun k364 hj317 => ?_) (fun k364 hj317 => ?_)
    · skip
      refine WC.skip ?_
      refine WX.then_ ?_
      refine WC.seq ?_
      refine WC.block ?_
      refine WC.seq ?_
      refine WC.region ?_
      obtain ⟨k365, hj317⟩ := chk hj317
      refine ixo 0 et37 rfl rfl rfl k365 rfl (fun uv366 h367 => ?_)
      obtain ⟨z370, e371, hj317⟩ := bnd hj317
      refine ldo (α := List UInt8) 0 na22 rfl h367 rfl e371 rfl (fun uv368 h369 => ?_)
      replace h369 := h369.sl; obtain ⟨a372, c373, rfl⟩ := h369.hd
      refine asg rfl rfl ?_
      refine WL.next ?_
      refine WC.seq ?_
      refine WC.region ?_
      refine mv rfl rfl ?_
      obtain ⟨x374, e375, hj317⟩ := bnd hj317
      refine call cl43 rfl rfl (W43 e375 h113) (fun _ J376 _ hJ377 q378 => ?_)
      have hI := hI.trans hJ377
      have lj317 := lj317.trans hJ377
      have ll1 := ll1.trans hJ377
      replace hp3 := hp3.up hJ377; replace h113 := h113.up hJ377; replace h135 := h135.up hJ377; replace h369 := h369.up hJ377
      obtain ⟨a379, c380, rfl, rfl⟩ := q378
      refine mv rfl rfl ?_
      obtain ⟨k382, hj317⟩ := chk hj317
      refine ap et22 rfl rfl (h369.rd) k382 rfl (fun a383 c384 => ?_)
      refine WL.freeze (fun J385 hJ386 h387 => ?_)
      have hI := hI.trans hJ386
      have lj317 := lj317.trans hJ386
      have ll1 := ll1.trans hJ386
      replace hp3 := hp3.up hJ386; replace h113 := h113.up hJ386; replace h135 := h135.up hJ386; replace h369 := h369.up hJ386
      obtain ⟨x388, e389, hj317⟩ := bnd hj317
      refine call cl44 rfl rfl (W44 e389 h387) (fun _ J390 _ hJ391 q392 => ?_)
      have hI := hI.trans hJ391
      have lj317 := lj317.trans hJ391
      have ll1 := ll1.trans hJ391
      replace hp3 := hp3.up hJ391; replace h113 := h113.up hJ391; replace h135 := h135.up hJ391; replace h369 := h369.up hJ391; replace h387 := h387.up hJ391
      obtain ⟨a393, c394, rfl, h395, rfl⟩ := q392
      refine al Try.zeroValue56 rfl (fun g396 => ?_)
      refine sta (C' := #[(.int .i64 x388.Number), (.slice a393 x388.Records.length c394), (.int .i64 x388.Whole), (.bool x388.Sealed)]) sz56 rfl rfl rfl rfl rfl rfl ?_
      refine WL.next ?_
      refine WC.seq ?_
      refine WC.region ?_
      refine fa fl56_3 rfl rfl ?_
      refine ld 0 na4 rfl rfl rfl rfl ?_
      refine mv rfl rfl ?_
      rcases spl hj317 with ⟨k398, hj317⟩ | ⟨k398, hj317⟩
      · skip
        refine WL.rb 106 rfl (bt1 k398) ?_
        refine WL.no rfl rfl rfl rfl ?_
        refine WL.no rfl rfl rfl rfl ?_
        refine WL.no rfl rfl rfl rfl ?_
        refine WL.no rfl rfl rfl rfl ?_
        refine pkT rfl rfl rfl ?_
        refine mv rfl rfl ?_
        refine WL.no rfl rfl rfl rfl ?_
        refine WL.no rfl rfl rfl rfl ?_
        refine WL.no rfl rfl rfl rfl ?_
        refine WL.no rfl rfl rfl rfl ?_
        refine WL.no rfl rfl rfl rfl ?_
        refine pkT rfl rfl rfl ?_
        refine mv rfl rfl ?_
        refine WL.no rfl rfl rfl rfl ?_
        refine WL.no rfl rfl rfl rfl ?_
        refine WL.no rfl rfl rfl rfl ?_
        refine WL.no rfl rfl rfl rfl ?_
        refine pkT rfl rfl rfl ?_
        refine WL.del 0 ?_
        refine WL.next ?_
        refine WC.cond rfl (fun _ => ?_) (fun k => by cases k)
        refine WC.seq ?_
        refine WC.region ?_
        refine asg rfl rfl ?_
        refine WL.del 0 ?_
        refine WL.next ?_
        refine WC.ret ?_
        refine WX.block_ret ?_
        refine WX.then_ret ?_
        refine WX.then_ret ?_
        refine WX.block_ret ?_
        refine WX.then_ret ?_
        cases hj317
        replace h : some _ = some _ := h
        cases h
        exact ret1 Try.results9 rfl hI ⟨rfl, rfl⟩
      refine WL.rb 106 rfl (bf1 k398) ?_
      refine WL.on rfl rfl ?_
      refine fa fl56_2 rfl rfl ?_
      refine WL.on rfl rfl ?_
      refine ld 0 na3 rfl rfl rfl rfl ?_
      refine WL.on rfl rfl ?_
      refine mv rfl rfl ?_
      refine WL.on rfl rfl ?_
      refine ne rfl rfl rfl ?_
      refine pkF rfl rfl rfl ?_
      refine mv rfl rfl ?_
      rcases spl hj317 with ⟨k399, hj317⟩ | ⟨k399, hj317⟩
      · skip
        refine WL.rb 112 rfl (bT k399) ?_
        refine WL.no rfl rfl rfl rfl ?_
        refine WL.no rfl rfl rfl rfl ?_
        refine WL.no rfl rfl rfl rfl ?_
        refine WL.no rfl rfl rfl rfl ?_
        refine WL.no rfl rfl rfl rfl ?_
        refine pkT rfl rfl rfl ?_
        refine mv rfl rfl ?_
        refine WL.no rfl rfl rfl rfl ?_
        refine WL.no rfl rfl rfl rfl ?_
        refine WL.no rfl rfl rfl rfl ?_
        refine WL.no rfl rfl rfl rfl ?_
        refine pkT rfl rfl rfl ?_
        refine WL.next ?_
        refine WC.cond rfl (fun _ => ?_) (fun k => by cases k)
        refine WC.seq ?_
        refine WC.region ?_
        refine asg rfl rfl ?_
        refine WL.del 0 ?_
        refine WL.del 0 ?_
        refine WL.next ?_
        refine WC.ret ?_
        refine WX.block_ret ?_
        refine WX.then_ret ?_
        refine WX.then_ret ?_
        refine WX.block_ret ?_
        refine WX.then_ret ?_
        cases hj317
        replace h : some _ = some _ := h
        cases h
        exact ret1 Try.results9 rfl hI ⟨rfl, rfl⟩
      refine WL.rb 112 rfl (bF k399) ?_
      refine WL.on rfl rfl ?_
      refine fa fl56_1 rfl rfl ?_
      refine WL.on rfl rfl ?_
      refine ld 0 na37 rfl rfl rfl rfl ?_
      refine WL.on rfl rfl ?_
      refine ln et37 rfl (h395.rd) rfl ?_
      refine WL.on rfl rfl ?_
      refine mv rfl rfl ?_
      refine WL.on rfl rfl ?_
      refine ne rfl rfl rfl ?_
      refine pkF rfl rfl rfl ?_
      refine mv rfl rfl ?_
      rcases spl hj317 with ⟨k400, hj317⟩ | ⟨k400, hj317⟩
      · skip
        refine WL.rb 119 rfl (bT k400) ?_
        refine WL.no rfl rfl rfl rfl ?_
        refine WL.no rfl rfl rfl rfl ?_
        refine WL.no rfl rfl rfl rfl ?_
        refine WL.no rfl rfl rfl rfl ?_
        refine pkT rfl rfl rfl ?_
        refine WL.next ?_
        refine WC.cond rfl (fun _ => ?_) (fun k => by cases k)
        refine WC.seq ?_
        refine WC.region ?_
        refine asg rfl rfl ?_
        refine WL.del 0 ?_
        refine WL.del 0 ?_
        refine WL.next ?_
        refine WC.ret ?_
        refine WX.block_ret ?_
        refine WX.then_ret ?_
        refine WX.then_ret ?_
        refine WX.block_ret ?_
        refine WX.then_ret ?_
        cases hj317
        replace h : some _ = some _ := h
        cases h
        exact ret1 Try.results9 rfl hI ⟨rfl, rfl⟩
      refine WL.rb 119 rfl (bF k400) ?_
      refine WL.on rfl rfl ?_
      refine fa fl56_0 rfl rfl ?_
      refine WL.on rfl rfl ?_
      refine ld 0 na3 rfl rfl rfl rfl ?_
      refine WL.on rfl rfl ?_
      refine mv rfl rfl ?_
      refine WL.on rfl rfl ?_
      refine ne rfl rfl rfl ?_
      refine pkF rfl rfl rfl ?_
      refine WL.next ?_
      refine WC.ite rfl hj317 (fun k401 hj317 => ?_) (fun k401 hj317 => ?_)
      · skip
        refine WC.seq ?_
        refine WC.region ?_
        refine asg rfl rfl ?_
        refine WL.del 0 ?_
        refine WL.del 0 ?_
        refine WL.next ?_
        refine WC.ret ?_
        refine WX.block_ret ?_
        refine WX.then_ret ?_
        refine WX.then_ret ?_
        refine WX.block_ret ?_
        refine WX.then_ret ?_
        cases hj317
        replace h : some _ = some _ := h
        cases h
        exact ret1 Try.results9 rfl hI ⟨rfl, rfl⟩
      refine WC.skip ?_
      refine WX.block_normal ?_
      refine WX.then_ ?_
      refine WC.region ?_
      refine ad rfl rfl rfl ?_
      refine mv rfl rfl ?_
      refine WL.nil ?_
      refine WX.front 1 ?_
      refine WX.del 1 ?_
      refine WX.round ?_
      exact (ih1 (w64 (x318 + 1)) _ ll1 trivial hj317).sub ⟨rfl, rfl, rfl, rfl, rfl, rfl, rfl, rfl, rfl, trivial⟩
    refine WC.exit ?_
    refine WX.then_exit ?_
    refine WX.then_exit ?_
    refine WX.block_here ?_
    refine WX.del 0 ?_
    exact (kj317 () _ lj317 (Option.some.inj hj317)).sub ⟨rfl, rfl, rfl, trivial⟩
  rintro ⟨⟩ J402 hJ403 rfl
  have hI := hI.trans hJ403
  replace hp3 := hp3.up hJ403; replace h135 := h135.up hJ403
  refine WX.then_ ?_
  refine WC.seq ?_
  refine WC.seq ?_
  refine WC.region ?_
  refine bs (os := [.const (.int .u8 1)]) (xs := ([(1 : UInt8)] : List UInt8)) et22 rfl rfl ⟨(Rv.of_u8 _ (1 : UInt8)), trivial⟩ rfl rfl rfl rfl (fun a404 c405 => ?_)
  refine WL.freeze (fun J407 hJ408 h409 => ?_)
  have hI := hI.trans hJ408
  replace hp3 := hp3.up hJ408; replace h135 := h135.up hJ408
  obtain ⟨x410, e411, h⟩ := bnd h
  refine call cl41 rfl rfl (W41 e411 h409) (fun _ J412 _ hJ413 q414 => ?_)
  have hI := hI.trans hJ413
  replace hp3 := hp3.up hJ413; replace h135 := h135.up hJ413; replace h409 := h409.up hJ413
  obtain ⟨a415, c416, rfl, rfl⟩ := q414
  refine mv rfl rfl ?_
  obtain ⟨x418, e419, h⟩ := bnd h
  refine call cl40 rfl rfl (W40 e419) (fun _ J420 _ hJ421 q422 => ?_)
  have hI := hI.trans hJ421
  replace hp3 := hp3.up hJ421; replace h135 := h135.up hJ421; replace h409 := h409.up hJ421
  obtain ⟨a423, c424, rfl, rfl⟩ := q422
  refine mv rfl rfl ?_
  obtain ⟨x426, e427, h⟩ := bnd h
  refine call cl15 rfl rfl (W15 e427 hp3) (fun _ J428 _ hJ429 q430 => ?_)
  have hI := hI.trans hJ429
  replace hp3 := hp3.up hJ429; replace h135 := h135.up hJ429; replace h409 := h409.up hJ429
  obtain ⟨a431, c432, rfl, rfl⟩ := q430
  refine WL.front 2 ?_
  refine WL.freeze (fun J437 hJ438 h439 => ?_)
  have hI := hI.trans hJ438
  replace hp3 := hp3.up hJ438; replace h135 := h135.up hJ438; replace h409 := h409.up hJ438
  refine WL.front 1 ?_
  refine WL.freeze (fun J440 hJ441 h442 => ?_)
  have hI := hI.trans hJ441
  replace hp3 := hp3.up hJ441; replace h135 := h135.up hJ441; replace h409 := h409.up hJ441; replace h439 := h439.up hJ441
  refine WL.freeze (fun J443 hJ444 h445 => ?_)
  have hI := hI.trans hJ444
  replace hp3 := hp3.up hJ444; replace h135 := h135.up hJ444; replace h409 := h409.up hJ444; replace h439 := h439.up hJ444; replace h442 := h442.up hJ444
  refine bs (os := [.tmp 127, .tmp 129, .tmp 131]) (xs := ([x410, x418, x426] : List (List UInt8))) et37 rfl rfl ⟨(h439).rv, (h442).rv, (h445).rv, trivial⟩ rfl rfl rfl rfl (fun a434 c435 => ?_)
  refine ln et37 rfl (OV.rd 0 rfl) rfl ?_
  refine mv rfl rfl ?_
  refine WL.next ?_
  refine WC.block ?_
  refine WC.loop (σ := Int) (fun k x446 => haulierlaw09_SegmentEnds_l2 x114 x122 x410 x418 x426 k x446) _ (fun x446 => [(12, (.slice a131 (x114 ++ x122).length c132)), (132, (.slice a434 ([x410, x418, x426]).length c435)), (133, (.int .i64 (([x410, x418, x426] : List (List UInt8)).length : Int))), (134, (.int .i64 x446))]) (fun x446 => OV 22 (.slice a434 ([x410, x418, x426]).length c435) ([x410, x418, x426] : List (List UInt8)) :: G) (fun x446 J => True) (fun x446 => rfl) bigN 0 h trivial ⟨rfl, rfl, rfl, rfl, trivial⟩ rfl ?_
  rintro k2 ih2 x446 J474 hJ475 - h
  change haulierlaw09_SegmentEnds_l2 x114 x122 x410 x418 x426 (k2 + 1) x446 = _ at h
  rw [haulierlaw09_SegmentEnds_l2] at h
  have hI := hI.trans hJ475
  replace h135 := h135.up hJ475
  have ll2 := hJ475
  refine WC.seq ?_
  refine WC.region ?_
  refine lt rfl rfl rfl ?_
  obtain ⟨x476, e477, h⟩ := bnd h
  refine WL.re (congrArg Value.bool (Option.some.inj e477)) ?_
  refine WL.next ?_
  refine WC.seq ?_
  refine WC.iteb rfl h (fun k478 h => ?_) (fun k478 h => ?_)
  · skip
    refine WC.skip ?_
    refine WX.then_ ?_
    refine WC.seq ?_
    refine WC.block ?_
    refine WC.seq ?_
    refine WC.region ?_
    obtain ⟨k479, h⟩ := chk h
    refine ixo 0 et37 rfl rfl rfl k479 rfl (fun uv480 h481 => ?_)
    obtain ⟨z484, e485, h⟩ := bnd h
    refine ldo (α := List UInt8) 0 na22 rfl h481 rfl e485 rfl (fun uv482 h483 => ?_)
    replace h483 := h483.sl; obtain ⟨a486, c487, rfl⟩ := h483.hd
    refine asg rfl rfl ?_
    refine WL.next ?_
    refine WC.seq ?_
    refine WC.region ?_
    refine mv rfl rfl ?_
    obtain ⟨x488, e489, h⟩ := bnd h
    refine call cl44 rfl rfl (W44 e489 h483) (fun _ J490 _ hJ491 q492 => ?_)
    have hI := hI.trans hJ491
    have ll2 := ll2.trans hJ491
    replace h135 := h135.up hJ491; replace h483 := h483.up hJ491
    obtain ⟨a493, c494, rfl, h495, rfl⟩ := q492
    refine al Try.zeroValue56 rfl (fun g496 => ?_)
    refine sta (C' := #[(.int .i64 x488.Number), (.slice a493 x488.Records.length c494), (.int .i64 x488.Whole), (.bool x488.Sealed)]) sz56 rfl rfl rfl rfl rfl rfl ?_
    refine WL.next ?_
    refine WC.seq ?_
    refine WC.region ?_
    refine fa fl56_0 rfl rfl ?_
    refine ld 0 na3 rfl rfl rfl rfl ?_
    refine ne rfl rfl rfl ?_
    refine mv rfl rfl ?_
    rcases spl h with ⟨k498, h⟩ | ⟨k498, h⟩
    · skip
      refine WL.rb 143 rfl (bT k498) ?_
      refine WL.no rfl rfl rfl rfl ?_
      refine WL.no rfl rfl rfl rfl ?_
      refine WL.no rfl rfl rfl rfl ?_
      refine pkT rfl rfl rfl ?_
      refine mv rfl rfl ?_
      refine WL.no rfl rfl rfl rfl ?_
      refine WL.no rfl rfl rfl rfl ?_
      refine WL.no rfl rfl rfl rfl ?_
      refine WL.no rfl rfl rfl rfl ?_
      refine pkT rfl rfl rfl ?_
      refine mv rfl rfl ?_
      refine WL.no rfl rfl rfl rfl ?_
      refine WL.no rfl rfl rfl rfl ?_
      refine pkT rfl rfl rfl ?_
      refine WL.del 0 ?_
      refine WL.next ?_
      refine WC.cond rfl (fun _ => ?_) (fun k => by cases k)
      refine WC.seq ?_
      refine WC.region ?_
      refine asg rfl rfl ?_
      refine WL.del 0 ?_
      refine WL.next ?_
      refine WC.ret ?_
      refine WX.block_ret ?_
      refine WX.then_ret ?_
      refine WX.then_ret ?_
      refine WX.block_ret ?_
      refine WX.then_ret ?_
      cases h
      exact ret1 Try.results9 rfl hI ⟨rfl, rfl⟩
    refine WL.rb 143 rfl (bF k498) ?_
    refine WL.on rfl rfl ?_
    refine fa fl56_2 rfl rfl ?_
    refine WL.on rfl rfl ?_
    refine ld 0 na3 rfl rfl rfl rfl ?_
    refine WL.on rfl rfl ?_
    refine ne rfl rfl rfl ?_
    refine pkF rfl rfl rfl ?_
    refine mv rfl rfl ?_
    rcases spl h with ⟨k499, h⟩ | ⟨k499, h⟩
    · skip
      refine WL.rb 148 rfl (bT k499) ?_
      refine WL.no rfl rfl rfl rfl ?_
      refine WL.no rfl rfl rfl rfl ?_
      refine WL.no rfl rfl rfl rfl ?_
      refine WL.no rfl rfl rfl rfl ?_
      refine pkT rfl rfl rfl ?_
      refine mv rfl rfl ?_
      refine WL.no rfl rfl rfl rfl ?_
      refine WL.no rfl rfl rfl rfl ?_
      refine pkT rfl rfl rfl ?_
      refine WL.next ?_
      refine WC.cond rfl (fun _ => ?_) (fun k => by cases k)
      refine WC.seq ?_
      refine WC.region ?_
      refine asg rfl rfl ?_
      refine WL.del 0 ?_
      refine WL.del 0 ?_
      refine WL.next ?_
      refine WC.ret ?_
      refine WX.block_ret ?_
      refine WX.then_ret ?_
      refine WX.then_ret ?_
      refine WX.block_ret ?_
      refine WX.then_ret ?_
      cases h
      exact ret1 Try.results9 rfl hI ⟨rfl, rfl⟩
    refine WL.rb 148 rfl (bF k499) ?_
    refine WL.on rfl rfl ?_
    refine fa fl56_1 rfl rfl ?_
    refine WL.on rfl rfl ?_
    refine ld 0 na37 rfl rfl rfl rfl ?_
    refine WL.on rfl rfl ?_
    refine ln et37 rfl (h495.rd) rfl ?_
    refine WL.on rfl rfl ?_
    refine ne rfl rfl rfl ?_
    refine pkF rfl rfl rfl ?_
    refine mv rfl rfl ?_
    rcases spl h with ⟨k500, h⟩ | ⟨k500, h⟩
    · skip
      refine WL.rb 154 rfl (bT k500) ?_
      refine WL.no rfl rfl rfl rfl ?_
      refine WL.no rfl rfl rfl rfl ?_
      refine pkT rfl rfl rfl ?_
      refine WL.next ?_
      refine WC.cond rfl (fun _ => ?_) (fun k => by cases k)
      refine WC.seq ?_
      refine WC.region ?_
      refine asg rfl rfl ?_
      refine WL.del 0 ?_
      refine WL.del 0 ?_
      refine WL.next ?_
      refine WC.ret ?_
      refine WX.block_ret ?_
      refine WX.then_ret ?_
      refine WX.then_ret ?_
      refine WX.block_ret ?_
      refine WX.then_ret ?_
      cases h
      exact ret1 Try.results9 rfl hI ⟨rfl, rfl⟩
    refine WL.rb 154 rfl (bF k500) ?_
    refine WL.on rfl rfl ?_
    refine fa fl56_3 rfl rfl ?_
    refine WL.on rfl rfl ?_
    refine ld 0 na4 rfl rfl rfl rfl ?_
    refine pkF rfl rfl rfl ?_
    refine WL.next ?_
    refine WC.iteb rfl h (fun k501 h => ?_) (fun k501 h => ?_)
    · skip
      refine WC.seq ?_
      refine WC.region ?_
      refine asg rfl rfl ?_
      refine WL.del 0 ?_
      refine WL.del 0 ?_
      refine WL.next ?_
      refine WC.ret ?_
      refine WX.block_ret ?_
      refine WX.then_ret ?_
      refine WX.then_ret ?_
      refine WX.block_ret ?_
      refine WX.then_ret ?_
      cases h
      exact ret1 Try.results9 rfl hI ⟨rfl, rfl⟩
    refine WC.skip ?_
    refine WX.block_normal ?_
    refine WX.then_ ?_
    refine WC.region ?_
    refine ad rfl rfl rfl ?_
    refine mv rfl rfl ?_
    refine WL.nil ?_
    refine WX.front 1 ?_
    refine WX.del 1 ?_
    refine WX.round ?_
    exact (ih2 (w64 (x446 + 1)) _ ll2 trivial h).sub ⟨rfl, rfl, rfl, rfl, trivial⟩
  refine WC.exit ?_
  refine WX.then_exit ?_
  refine WX.then_exit ?_
  refine WX.block_here ?_
  refine WX.then_ ?_
  refine WC.seq ?_
  refine WC.region ?_
  refine mv rfl rfl ?_
  obtain ⟨x502, e503, h⟩ := bnd h
  refine call cl44 rfl rfl (W44 e503 h135) (fun _ J504 _ hJ505 q506 => ?_)
  have hI := hI.trans hJ505
  have ll2 := ll2.trans hJ505
  replace h135 := h135.up hJ505
  obtain ⟨a507, c508, rfl, h509, rfl⟩ := q506
  refine fd (v := (.bool x502.Sealed)) fd56_3 rfl rfl rfl rfl ?_
  refine mv rfl rfl ?_
  rcases spl h with ⟨k510, h⟩ | ⟨k510, h⟩
  · skip
    refine WL.rb 162 rfl (bt1 k510) ?_
    refine WL.on rfl rfl ?_
    obtain ⟨x511, e512, h⟩ := bnd h
    refine call cl42 rfl rfl (W42 e512) (fun _ J513 _ hJ514 q515 => ?_)
    have hI := hI.trans hJ514
    have ll2 := ll2.trans hJ514
    replace h135 := h135.up hJ514; replace h509 := h509.up hJ514
    obtain ⟨rfl, rfl⟩ := q515
    refine pkT rfl rfl rfl ?_
    refine asg rfl rfl ?_
    refine WL.del 0 ?_
    refine WL.next ?_
    refine WC.ret ?_
    cases h
    exact ret1 Try.results9 rfl hI ⟨rfl, rfl⟩
  refine WL.rb 162 rfl (bf1 k510) ?_
  refine WL.no rfl rfl rfl rfl ?_
  refine pkF rfl rfl rfl ?_
  refine asg rfl rfl ?_
  refine WL.del 0 ?_
  refine WL.next ?_
  refine WC.ret ?_
  cases h
  exact ret1 Try.results9 rfl hI ⟨rfl, rfl⟩
theorem W45 {I : Mem} {G : List Asn} {p0 : List UInt8} {r : Int × Int × Bool} (h : haulierref01_Take p0 = some r) {u0 : Value} (hp0 : IV I u0 p0) :
    CallsS Try.prog 45 #[u0] I (G) (fun v J G' => v = .tuple #[.int .i64 r.1, .int .i64 r.2.1, .bool r.2.2] ∧ G = G') := by
  refine CallsS.enter Try.func45 rfl Try.ntmps45 rfl (fun w0 => ?_)
  have hI := Mem.le.refl I
  obtain ⟨a0, c0, rfl⟩ := hp0.hd
  unfold haulierref01_Take at h
  refine WC.seq ?_
  refine WC.region ?_
  refine asg rfl rfl ?_
  refine asg rfl rfl ?_
  refine asg rfl rfl ?_
  refine WL.next ?_
  refine WC.seq ?_
  refine WC.seq ?_
  refine WC.region ?_
  refine mv rfl rfl ?_
  refine ln et22 rfl (hp0.rd) rfl ?_
  refine eq rfl rfl rfl ?_
  refine WL.next ?_
  refine WC.ite rfl h (fun k1 h => ?_) (fun k1 h => ?_)
  · skip
    refine WC.seq ?_
    refine WC.region ?_
    refine asg rfl rfl ?_
    refine asg rfl rfl ?_
    refine asg rfl rfl ?_
    refine WL.next ?_
    refine WC.ret ?_
    refine WX.then_ret ?_
    cases h
    exact ret3 Try.results45 rfl rfl rfl hI ⟨rfl, rfl⟩
  refine WC.skip ?_
  refine WX.then_ ?_
  refine WC.seq ?_
  refine WC.region ?_
  refine mv rfl rfl ?_
  obtain ⟨z2, e3, h⟩ := bnd h
  refine ixi et22 rfl rfl hp0 e3 rfl (fun uv4 h5 => ?_)
  refine ldi (α := UInt8) na5 rfl h5 rfl (fun uv6 h7 => ?_)
  obtain rfl := h7.u8
  refine srb (a := z2) (by decide) rfl rfl rfl rfl ?_
  refine cv8_64 Try.underlying5 Try.underlying62 rfl rfl ?_
  refine sl (Int.natCast_nonneg _) rfl rfl rfl ?_
  obtain ⟨x8, e9, h⟩ := bnd h
  refine WL.re (congrArg (Value.int .i64) (Option.some.inj e9)) ?_
  refine asg rfl rfl ?_
  refine WL.next ?_
  refine WC.seq ?_
  refine WC.seq ?_
  refine WC.region ?_
  refine mv rfl rfl ?_
  refine ln et22 rfl (hp0.rd) rfl ?_
  refine mv rfl rfl ?_
  refine lt rfl rfl rfl ?_
  refine WL.next ?_
  refine WC.ite rfl h (fun k10 h => ?_) (fun k10 h => ?_)
  · skip
    refine WC.seq ?_
    refine WC.region ?_
    refine asg rfl rfl ?_
    refine asg rfl rfl ?_
    refine asg rfl rfl ?_
    refine WL.next ?_
    refine WC.ret ?_
    refine WX.then_ret ?_
    cases h
    exact ret3 Try.results45 rfl rfl rfl hI ⟨rfl, rfl⟩
  refine WC.skip ?_
  refine WX.then_ ?_
  refine WC.seq ?_
  refine WC.region ?_
  refine mv rfl rfl ?_
  obtain ⟨z11, e12, h⟩ := bnd h
  refine ixi et22 rfl rfl hp0 e12 rfl (fun uv13 h14 => ?_)
  refine ldi (α := UInt8) na5 rfl h14 rfl (fun uv15 h16 => ?_)
  obtain rfl := h16.u8
  refine rm8 (a := z11) (b := (64 : UInt8)) (by decide) rfl rfl rfl rfl rfl ?_
  refine cv8i Try.underlying5 Try.underlying3 rfl rfl ?_
  refine asg rfl rfl ?_
  refine WL.next ?_
  refine WC.seq ?_
  refine WC.seq ?_
  refine WC.region ?_
  refine asg rfl rfl ?_
  refine WL.next ?_
  refine WC.block ?_
  refine WC.loop (σ := Int × Int) (fun k (x17, x18) => haulierref01_Take_l0 p0 x8 k x17 x18) _ (fun (x17, x18) => [(0, (.slice a0 p0.length c0)), (5, (.int .i64 x8)), (6, (.int .i64 x17)), (7, (.int .i64 x18))]) (fun (x17, x18) => G) (fun (x17, x18) J => True) (fun ⟨x17, x18⟩ => rfl) bigN ⟨((z11 % (64 : UInt8)).toNat : Int), 1⟩ h trivial ⟨rfl, rfl, rfl, rfl, trivial⟩ rfl ?_
  rintro k0 ih0 ⟨x17, x18⟩ J29 hJ30 - h
  change haulierref01_Take_l0 p0 x8 (k0 + 1) x17 x18 = _ at h
  rw [haulierref01_Take_l0] at h
  have hI := hI.trans hJ30
  replace hp0 := hp0.up hJ30
  have ll0 := hJ30
  refine WC.seq ?_
  refine WC.seq ?_
  refine WC.region ?_
  refine mv rfl rfl ?_
  refine mv rfl rfl ?_
  refine lt rfl rfl rfl ?_
  refine WL.next ?_
  refine WC.ite rfl h (fun k31 h => ?_) (fun k31 h => ?_)
  · skip
    refine WC.skip ?_
    refine WX.then_ ?_
    refine WC.seq ?_
    refine WC.block ?_
    refine WC.region ?_
    refine mv rfl rfl ?_
    refine sl (by decide) rfl rfl rfl ?_
    refine mv rfl rfl ?_
    refine mv rfl rfl ?_
    obtain ⟨z32, e33, h⟩ := bnd h
    refine ixi et22 rfl rfl hp0 e33 rfl (fun uv34 h35 => ?_)
    refine ldi (α := UInt8) na5 rfl h35 rfl (fun uv36 h37 => ?_)
    obtain rfl := h37.u8
    refine cv8i Try.underlying5 Try.underlying3 rfl rfl ?_
    refine bt (.inr (.inl rfl)) rfl rfl rfl ?_
    obtain ⟨x38, e39, h⟩ := bnd h
    refine WL.re (congrArg (Value.int .i64) (Option.some.inj e39)) ?_
    refine asg rfl rfl ?_
    refine WL.nil ?_
    refine WX.block_normal ?_
    refine WX.then_ ?_
    refine WC.region ?_
    refine mv rfl rfl ?_
    refine ad rfl rfl rfl ?_
    refine asg rfl rfl ?_
    refine WL.nil ?_
    refine WX.round ?_
    exact (ih0 ⟨x38, w64 (x18 + 1)⟩ _ ll0 trivial h).sub ⟨rfl, rfl, rfl, rfl, trivial⟩
  refine WC.exit ?_
  refine WX.then_exit ?_
  refine WX.then_exit ?_
  refine WX.block_here ?_
  refine WX.then_ ?_
  refine WC.seq ?_
  refine WC.seq ?_
  refine WC.region ?_
  refine mv rfl rfl ?_
  obtain ⟨x40, e41, h⟩ := bnd h
  refine call cl72 rfl rfl (W72 e41) (fun _ J42 _ hJ43 q44 => ?_)
  have hI := hI.trans hJ43
  have ll0 := ll0.trans hJ43
  replace hp0 := hp0.up hJ43
  obtain ⟨rfl, rfl⟩ := q44
  refine mv rfl rfl ?_
  refine ne rfl rfl rfl ?_
  refine WL.next ?_
  refine WC.ite rfl h (fun k45 h => ?_) (fun k45 h => ?_)
  · skip
    refine WC.seq ?_
    refine WC.region ?_
    refine asg rfl rfl ?_
    refine asg rfl rfl ?_
    refine asg rfl rfl ?_
    refine WL.next ?_
    refine WC.ret ?_
    refine WX.then_ret ?_
    cases h
    exact ret3 Try.results45 rfl rfl rfl hI ⟨rfl, rfl⟩
  refine WC.skip ?_
  refine WX.then_ ?_
  refine WC.seq ?_
  refine WC.region ?_
  refine mv rfl rfl ?_
  refine mv rfl rfl ?_
  refine asg rfl rfl ?_
  refine asg rfl rfl ?_
  refine asg rfl rfl ?_
  refine WL.next ?_
  refine WC.ret ?_
  cases h
  exact ret3 Try.results45 rfl rfl rfl hI ⟨rfl, rfl⟩
end Go.Proofs.Ytgobccnphhljcaa
