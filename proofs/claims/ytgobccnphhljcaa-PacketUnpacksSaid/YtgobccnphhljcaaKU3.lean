/- Printed by a program of this session: walks of Go functions. -/
import Derived.Test.YtgobccnphhljcaaKf
import Derived.Test.YtgobccnphhljcaaDf
import Derived.Test.YtgobccnphhljcaaKU0
import Derived.Test.YtgobccnphhljcaaKU2
namespace Go.Proofs.Ytgobccnphhljcaa
set_option linter.unusedVariables false
set_option maxRecDepth 10000
set_option maxHeartbeats 2000000
theorem W83 {I : Mem} {G : List Asn} {p0 : List UInt8} {r : Int × Int × Bool} (h : vint_Take p0 = some r) {u0 : Value} (hp0 : IV I u0 p0) :
    CallsS Try.prog 83 #[u0] I (G) (fun v J G' => v = .tuple #[.int .i64 r.1, .int .i64 r.2.1, .bool r.2.2] ∧ G = G') := by
  refine CallsS.enter Try.func83 rfl Try.ntmps83 rfl (fun w0 => ?_)
  have hI := Mem.le.refl I
  obtain ⟨a0, c0, rfl⟩ := hp0.hd
  unfold vint_Take at h
  refine WC.seq ?_
  refine WC.region ?_
  refine asg rfl rfl ?_
  refine asg rfl rfl ?_
  refine asg rfl rfl ?_
  refine WL.next ?_
  refine WC.seq ?_
  refine WC.seq ?_
  refine WC.region ?_
  refine mv rfl rfl ?_
  refine ln et22 rfl (hp0.rd) rfl ?_
  refine eq rfl rfl rfl ?_
  refine WL.next ?_
  refine WC.ite rfl h (fun k1 h => ?_) (fun k1 h => ?_)
  · skip
    refine WC.seq ?_
    refine WC.region ?_
    refine asg rfl rfl ?_
    refine asg rfl rfl ?_
    refine asg rfl rfl ?_
    refine WL.next ?_
    refine WC.ret ?_
    refine WX.then_ret ?_
    cases h
    exact ret3 Try.results83 rfl rfl rfl hI ⟨rfl, rfl⟩
  refine WC.skip ?_
  refine WX.then_ ?_
  refine WC.seq ?_
  refine WC.region ?_
  refine mv rfl rfl ?_
  obtain ⟨z2, e3, h⟩ := bnd h
  refine ixi et22 rfl rfl hp0 e3 rfl (fun uv4 h5 => ?_)
  refine ldi (α := UInt8) na5 rfl h5 rfl (fun uv6 h7 => ?_)
  obtain rfl := h7.u8
  refine srb (a := z2) (by decide) rfl rfl rfl rfl ?_
  refine sl (Int.natCast_nonneg _) rfl rfl rfl ?_
  refine asg rfl rfl ?_
  refine WL.next ?_
  refine WC.seq ?_
  refine WC.seq ?_
  refine WC.region ?_
  refine mv rfl rfl ?_
  refine mv rfl rfl ?_
  refine ln et22 rfl (hp0.rd) rfl ?_
  refine gt rfl rfl rfl ?_
  refine WL.next ?_
  refine WC.ite rfl h (fun k8 h => ?_) (fun k8 h => ?_)
  · skip
    refine WC.seq ?_
    refine WC.region ?_
    refine asg rfl rfl ?_
    refine asg rfl rfl ?_
    refine asg rfl rfl ?_
    refine WL.next ?_
    refine WC.ret ?_
    refine WX.then_ret ?_
    cases h
    exact ret3 Try.results83 rfl rfl rfl hI ⟨rfl, rfl⟩
  refine WC.skip ?_
  refine WX.then_ ?_
  refine WC.seq ?_
  refine WC.region ?_
  refine mv rfl rfl ?_
  obtain ⟨z9, e10, h⟩ := bnd h
  refine ixi et22 rfl rfl hp0 e10 rfl (fun uv11 h12 => ?_)
  refine ldi (α := UInt8) na5 rfl h12 rfl (fun uv13 h14 => ?_)
  obtain rfl := h14.u8
  refine and8 (a := z9) (b := (63 : UInt8)) rfl rfl rfl rfl rfl ?_
  refine cv8i Try.underlying5 Try.underlying3 rfl rfl ?_
  refine asg rfl rfl ?_
  refine WL.next ?_
  refine WC.seq ?_
  refine WC.seq ?_
  refine WC.region ?_
  refine mv rfl rfl ?_
  refine mv rfl rfl ?_
  obtain ⟨y15, e16, h⟩ := bnd h
  refine cti (kl := .i64) (kh := .i64) et22 rfl hp0 (.inr ⟨_, rfl, rfl, rfl⟩) (.inr ⟨_, rfl, rfl, rfl⟩) e16 rfl (fun a17 c18 h19 => ?_)
  refine ln et22 rfl (h19.rd) rfl ?_
  refine mv rfl rfl ?_
  refine WL.next ?_
  obtain ⟨j44, hj44, h⟩ := bnd h
  refine WC.joinQ (σ := Int) (fun x43 => [(0, (.slice a0 p0.length c0)), (2, (.int .i64 x43)), (3, (.int .i64 (sl64 1 ((sr8 z2 6).toNat : Int))))]) (fun x43 => G) (fun x43 J => x43 = j44) (fun kj44 => ?_) ?_
  · skip
    have lj44 := Mem.le.refl I
    refine WC.block ?_
    refine WC.loop (σ := Int × Int) (fun k (x45, x46) => vint_Take_l0 y15 k x45 x46) _ (fun (x45, x46) => [(0, (.slice a0 p0.length c0)), (2, (.int .i64 x45)), (3, (.int .i64 (sl64 1 ((sr8 z2 6).toNat : Int)))), (26, (.slice a17 y15.length c18)), (27, (.int .i64 (y15.length : Int))), (28, (.int .i64 x46))]) (fun (x45, x46) => G) (fun (x45, x46) J => True) (fun ⟨x45, x46⟩ => rfl) bigN ⟨((z9 &&& (63 : UInt8)).toNat : Int), 0⟩ hj44 trivial ⟨rfl, rfl, rfl, rfl, rfl, rfl, trivial⟩ rfl ?_
    rintro k0 ih0 ⟨x45, x46⟩ J57 hJ58 - hj44
    change vint_Take_l0 y15 (k0 + 1) x45 x46 = _ at hj44
    rw [vint_Take_l0] at hj44
    have hI := hI.trans hJ58
    have lj44 := lj44.trans hJ58
    replace hp0 := hp0.up hJ58; replace h19 := h19.up hJ58
    have ll0 := hJ58
    refine WC.seq ?_
    refine WC.region ?_
    refine lt rfl rfl rfl ?_
    refine WL.next ?_
    refine WC.seq ?_
    refine WC.ite rfl hj44 (fun k59 hj44 => ?_) (fun k59 hj44 => ?_)
    · skip
      refine WC.skip ?_
      refine WX.then_ ?_
      refine WC.seq ?_
      refine WC.block ?_
      refine WC.seq ?_
      refine WC.region ?_
      obtain ⟨z60, e61, hj44⟩ := bnd hj44
      refine ixi et22 rfl rfl h19 e61 rfl (fun uv62 h63 => ?_)
      refine ldi (α := UInt8) na5 rfl h63 rfl (fun uv64 h65 => ?_)
      obtain rfl := h65.u8
      refine asg rfl rfl ?_
      refine WL.next ?_
      refine WC.region ?_
      refine mv rfl rfl ?_
      refine sl (by decide) rfl rfl rfl ?_
      refine mv rfl rfl ?_
      refine cv8i Try.underlying5 Try.underlying3 rfl rfl ?_
      refine bt (.inr (.inl rfl)) rfl rfl rfl ?_
      obtain ⟨x66, e67, hj44⟩ := bnd hj44
      refine WL.re (congrArg (Value.int .i64) (Option.some.inj e67)) ?_
      refine asg rfl rfl ?_
      refine WL.nil ?_
      refine WX.block_normal ?_
      refine WX.then_ ?_
      refine WC.region ?_
      refine ad rfl rfl rfl ?_
      refine mv rfl rfl ?_
      refine WL.nil ?_
      refine WX.round ?_
      exact (ih0 ⟨x66, w64 (x46 + 1)⟩ _ ll0 trivial hj44).sub ⟨rfl, rfl, rfl, rfl, rfl, rfl, trivial⟩
    refine WC.exit ?_
    refine WX.then_exit ?_
    refine WX.then_exit ?_
    refine WX.block_here ?_
    exact (kj44 x45 _ lj44 (Option.some.inj hj44)).sub ⟨rfl, rfl, rfl, trivial⟩
  rintro x43 J68 hJ69 rfl
  have hI := hI.trans hJ69
  replace hp0 := hp0.up hJ69
  refine WX.then_ ?_
  refine WC.seq ?_
  refine WC.seq ?_
  refine WC.sub (r := [(0, (.slice a0 p0.length c0)), (2, (.int .i64 x43)), (3, (.int .i64 (sl64 1 ((sr8 z2 6).toNat : Int))))]) ?_ ⟨rfl, rfl, rfl, trivial⟩
  obtain ⟨x70, e71, h⟩ := bnd h
  obtain ⟨y78, e79, h⟩ := bnd h
  obtain ⟨x86, e87, h⟩ := bnd h
  refine WC.drawn mo (nthL [[], [0], [], [], [2, 3], [0, 1, 2, 3, 4], [0, 1, 2, 3, 4, 5]]) (nthL [[], [0], [], [], [2, 3], [1, 4], [5]]) (nthK [.val (.int .i64 x43), .any, .val (.slice a0 p0.length c0), .val (.int .i64 (sl64 1 ((sr8 z2 6).toNat : Int))), .imm y78, .val (.bool x86), .val (.bool (!x86))]) [⟨(some 1), (some 5), [], [1], fun l => OV 5 (vget l 0) x70⟩] (by kernel_rfl) (by kernel_rfl) (by kernel_rfl) (H := G) rfl ⟨?_, ?_, ?_, ?_, ?_, ?_, ?_, trivial⟩ ?_
  · intro Q ρ I1 H hI1 hk hpost
    have hc := Mem.le.refl I1
    refine mv rfl rfl ?_
    refine WL.nil ?_
    exact hpost _ _ hc rfl _ (fun _ hd => by obtain rfl := Option.some.inj hd; exact ⟨rfl, trivial⟩)
  · intro Q ρ I1 H hI1 hk hpost
    obtain ⟨_, -⟩ := hk
    have hc := Mem.le.refl I1
    refine call cl59 rfl rfl (W59 e71) (fun _ J72 _ hJ73 q74 => ?_)
    have hc := hc.trans hJ73
    obtain ⟨a75, c76, rfl, rfl⟩ := q74
    refine WL.nil ?_
    exact hpost _ _ hc trivial _ (fun _ hd => by obtain rfl := Option.some.inj hd; exact ⟨rfl, trivial⟩)
  · intro Q ρ I1 H hI1 hk hpost
    have hc := Mem.le.refl I1
    refine mv rfl rfl ?_
    refine WL.nil ?_
    exact hpost _ _ hc rfl _ (fun _ hd => by obtain rfl := Option.some.inj hd; exact ⟨rfl, trivial⟩)
  · intro Q ρ I1 H hI1 hk hpost
    have hc := Mem.le.refl I1
    refine mv rfl rfl ?_
    refine WL.nil ?_
    exact hpost _ _ hc rfl _ (fun _ hd => by obtain rfl := Option.some.inj hd; exact ⟨rfl, trivial⟩)
  · intro Q ρ I1 H hI1 hk hpost
    obtain ⟨_, _, -⟩ := hk
    replace hp0 := hp0.up hI1
    have hc := Mem.le.refl I1
    refine cti (kl := .i64) (kh := .i64) et22 rfl hp0 (.inl ⟨rfl, rfl, rfl⟩) (.inr ⟨_, rfl, rfl, rfl⟩) e79 rfl (fun a80 c81 h82 => ?_)
    refine WL.nil ?_
    exact hpost _ _ hc h82 _ (fun _ hd => by obtain rfl := Option.some.inj hd; exact ⟨rfl, trivial⟩)
  · intro Q ρ I1 H hI1 hk hpost
    obtain ⟨_, k4, -⟩ := hk
    have hc := Mem.le.refl I1
    refine WL.freeze (fun J83 hJ84 h85 => ?_)
    have hc := hc.trans hJ84
    replace k4 := k4.up hJ84
    refine call cl56 rfl rfl (W56 e87 h85 k4) (fun _ J88 _ hJ89 q90 => ?_)
    have hc := hc.trans hJ89
    replace h85 := h85.up hJ89; replace k4 := k4.up hJ89
    obtain ⟨rfl, rfl⟩ := q90
    refine WL.nil ?_
    exact hpost _ _ hc rfl _ (fun _ hd => by obtain rfl := Option.some.inj hd; exact ⟨rfl, trivial⟩)
  · intro Q ρ I1 H hI1 hk hpost
    obtain ⟨_, -⟩ := hk
    have hc := Mem.le.refl I1
    refine nt rfl rfl ?_
    refine WL.nil ?_
    exact hpost _ _ hc rfl _ (fun _ hd => by obtain rfl := Option.some.inj hd; exact ⟨rfl, trivial⟩)
  rintro ρ J91 hJ92 -
  refine WX.sub (r := [(2, (.int .i64 x43)), (3, (.int .i64 (sl64 1 ((sr8 z2 6).toNat : Int)))), (44, (.bool (!x86)))]) ?_ ⟨rfl, rfl, rfl, trivial⟩
  refine WX.is (H := G) rfl ?_
  have hI := hI.trans hJ92
  refine WX.then_ ?_
  refine WC.itebn rfl h (fun k93 h => ?_) (fun k93 h => ?_)
  · skip
    refine WC.skip ?_
    refine WX.then_ ?_
    refine WC.seq ?_
    refine WC.region ?_
    refine mv rfl rfl ?_
    refine mv rfl rfl ?_
    refine asg rfl rfl ?_
    refine asg rfl rfl ?_
    refine asg rfl rfl ?_
    refine WL.next ?_
    refine WC.ret ?_
    cases h
    exact ret3 Try.results83 rfl rfl rfl hI ⟨rfl, rfl⟩
  refine WC.seq ?_
  refine WC.region ?_
  refine asg rfl rfl ?_
  refine asg rfl rfl ?_
  refine asg rfl rfl ?_
  refine WL.next ?_
  refine WC.ret ?_
  refine WX.then_ret ?_
  cases h
  exact ret3 Try.results83 rfl rfl rfl hI ⟨rfl, rfl⟩
theorem W48 {I : Mem} {G : List Asn} {p0 : span_Reader} {r : Int × span_Reader} (h : span_Reader_Left p0 = some r) {g0 : Nat} :
    CallsS Try.prog 48 #[.pointer (some ⟨g0, 0, none⟩)] I (Ob_span_Reader g0 p0 :: G) (fun v J G' => v = .int .i64 r.1 ∧ Ob_span_Reader g0 (r.2) :: G = G') := by
  refine CallsS.enter Try.func48 rfl Try.ntmps48 rfl (fun w0 => ?_)
  have hI := Mem.le.refl I
  unfold span_Reader_Left at h
  refine WC.seq ?_
  refine WC.region ?_
  refine asg rfl rfl ?_
  refine WL.next ?_
  refine WC.seq ?_
  refine WC.open_span_Reader (fun a2 c3 h4 => ?_)
  refine WC.sub (r := [(0, (.pointer (some ⟨g0, 0, none⟩)))]) ?_ ⟨rfl, trivial⟩
  obtain ⟨x5, e6, h⟩ := bnd h
  refine WC.drawn mo (nthL [[], [0], [0, 1], [0, 1, 2], [0, 1, 2, 3], [], [5], [5, 6], [5, 6, 7], [0, 1, 2, 3, 4, 5, 6, 7, 8], [0, 1, 2, 3, 4, 5, 6, 7, 8, 9]]) (nthL [[], [0], [1], [2], [3], [], [5], [6], [7], [4, 8], [9]]) (nthK [.val (.pointer (some ⟨g0, 0, none⟩)), .val (.pointer (some ⟨g0, 0, none⟩)), .val (.pointer (some ⟨g0, 0, none⟩)), .val (.slice a2 p0.b_.length c3), .val (.int .i64 (p0.b_.length : Int)), .val (.pointer (some ⟨g0, 0, none⟩)), .val (.pointer (some ⟨g0, 0, none⟩)), .val (.pointer (some ⟨g0, 1, none⟩)), .val (.int .i64 p0.at_), .val (.int .i64 x5), .val (.int .i64 x5)]) [⟨none, none, [3, 8], [], fun _ => bl g0 #[(.slice a2 p0.b_.length c3), (.int .i64 p0.at_), (.bool p0.bad_)] 94⟩] (by kernel_rfl) (by kernel_rfl) (by kernel_rfl) (H := G) rfl ⟨?_, ?_, ?_, ?_, ?_, ?_, ?_, ?_, ?_, ?_, ?_, trivial⟩ ?_
  · intro Q ρ I1 H hI1 hk hpost
    have hc := Mem.le.refl I1
    refine mv rfl rfl ?_
    refine WL.nil ?_
    exact hpost _ _ hc rfl _ (fun _ hd => by obtain rfl := Option.some.inj hd; exact ⟨rfl, trivial⟩)
  · intro Q ρ I1 H hI1 hk hpost
    obtain ⟨_, -⟩ := hk
    have hc := Mem.le.refl I1
    refine nc rfl rfl ?_
    refine WL.nil ?_
    exact hpost _ _ hc rfl _ (fun _ hd => by obtain rfl := Option.some.inj hd; exact ⟨rfl, trivial⟩)
  · intro Q ρ I1 H hI1 hk hpost
    obtain ⟨_, -⟩ := hk
    have hc := Mem.le.refl I1
    refine fa fl94_0 rfl rfl ?_
    refine WL.nil ?_
    exact hpost _ _ hc rfl _ (fun _ hd => by obtain rfl := Option.some.inj hd; exact ⟨rfl, trivial⟩)
  · intro Q ρ I1 H hI1 hk hpost
    obtain ⟨_, -⟩ := hk
    have hc := Mem.le.refl I1
    refine ld 0 na22 rfl rfl rfl rfl ?_
    refine WL.nil ?_
    exact hpost _ _ hc rfl _ (fun _ hd => by obtain rfl := Option.some.inj hd; exact ⟨rfl, trivial⟩)
  · intro Q ρ I1 H hI1 hk hpost
    obtain ⟨_, -⟩ := hk
    replace h4 := h4.up hI1
    have hc := Mem.le.refl I1
    refine ln et22 rfl (h4.rd) rfl ?_
    refine WL.nil ?_
    exact hpost _ _ hc rfl _ (fun _ hd => by obtain rfl := Option.some.inj hd; exact ⟨rfl, trivial⟩)
  · intro Q ρ I1 H hI1 hk hpost
    have hc := Mem.le.refl I1
    refine mv rfl rfl ?_
    refine WL.nil ?_
    exact hpost _ _ hc rfl _ (fun _ hd => by obtain rfl := Option.some.inj hd; exact ⟨rfl, trivial⟩)
  · intro Q ρ I1 H hI1 hk hpost
    obtain ⟨_, -⟩ := hk
    have hc := Mem.le.refl I1
    refine nc rfl rfl ?_
    refine WL.nil ?_
    exact hpost _ _ hc rfl _ (fun _ hd => by obtain rfl := Option.some.inj hd; exact ⟨rfl, trivial⟩)
  · intro Q ρ I1 H hI1 hk hpost
    obtain ⟨_, -⟩ := hk
    have hc := Mem.le.refl I1
    refine fa fl94_1 rfl rfl ?_
    refine WL.nil ?_
    exact hpost _ _ hc rfl _ (fun _ hd => by obtain rfl := Option.some.inj hd; exact ⟨rfl, trivial⟩)
  · intro Q ρ I1 H hI1 hk hpost
    obtain ⟨_, -⟩ := hk
    have hc := Mem.le.refl I1
    refine ld 0 na3 rfl rfl rfl rfl ?_
    refine WL.nil ?_
    exact hpost _ _ hc rfl _ (fun _ hd => by obtain rfl := Option.some.inj hd; exact ⟨rfl, trivial⟩)
  · intro Q ρ I1 H hI1 hk hpost
    obtain ⟨_, _, -⟩ := hk
    have hc := Mem.le.refl I1
    refine su rfl rfl rfl ?_
    refine WL.re (congrArg (Value.int .i64) (Option.some.inj e6)) ?_
    refine WL.nil ?_
    exact hpost _ _ hc rfl _ (fun _ hd => by obtain rfl := Option.some.inj hd; exact ⟨rfl, trivial⟩)
  · intro Q ρ I1 H hI1 hk hpost
    obtain ⟨_, -⟩ := hk
    have hc := Mem.le.refl I1
    refine asg rfl rfl ?_
    refine WL.nil ?_
    exact hpost _ _ hc rfl _ (fun _ hd => by obtain rfl := Option.some.inj hd; exact ⟨rfl, trivial⟩)
  rintro ρ J7 hJ8 -
  refine WX.sub (r := [(2, (.int .i64 x5))]) ?_ ⟨rfl, trivial⟩
  refine WX.is (H := bl g0 #[(.slice a2 p0.b_.length c3), (.int .i64 p0.at_), (.bool p0.bad_)] 94 :: G) rfl ?_
  have hI := hI.trans hJ8
  replace h4 := h4.up hJ8
  refine WX.then_ ?_
  refine WC.ret ?_
  refine WX.shut_span_Reader (⟨p0.b_, p0.at_, p0.bad_⟩ : span_Reader) h4 ?_
  cases h
  exact ret1 Try.results48 rfl hI ⟨rfl, rfl⟩
theorem W75 {I : Mem} {G : List Asn} {p0 : span_Reader} {p1 : Int} {r : (List UInt8) × span_Reader} (h : span_Reader_Bytes p0 p1 = some r) {g0 : Nat} :
    CallsS Try.prog 75 #[.pointer (some ⟨g0, 0, none⟩), .int .i64 p1] I (Ob_span_Reader g0 p0 :: G) (fun v J G' => ∃ ra0 rc0, v = .slice ra0 r.1.length rc0 ∧ OV 5 (.slice ra0 r.1.length rc0) r.1 :: Ob_span_Reader g0 (r.2) :: G = G') := by
  refine CallsS.enter Try.func75 rfl Try.ntmps75 rfl (fun w0 => ?_)
  have hI := Mem.le.refl I
  unfold span_Reader_Bytes at h
  refine WC.seq ?_
  refine WC.region ?_
  refine asg rfl rfl ?_
  refine WL.next ?_
  refine WC.seq ?_
  refine WC.open_span_Reader (fun a2 c3 h4 => ?_)
  refine WC.sub (r := [(0, (.pointer (some ⟨g0, 0, none⟩))), (1, (.int .i64 p1))]) ?_ ⟨rfl, rfl, trivial⟩
  obtain ⟨y5, e6, h⟩ := bnd h
  obtain ⟨⟨x10, x11, x12⟩, e13, h⟩ := bnd h
  refine WC.drawn mo (nthL [[], [0], [0, 1], [0, 1, 2], [], [4], [4, 5], [4, 5, 6], [0, 1, 2, 3, 4, 5, 6, 7], [0, 1, 2, 3, 4, 5, 6, 7, 8], [0, 1, 2, 3, 4, 5, 6, 7, 8, 9], [0, 1, 2, 3, 4, 5, 6, 7, 8, 9, 10], [0, 1, 2, 3, 4, 5, 6, 7, 8, 9, 10], [0, 1, 2, 3, 4, 5, 6, 7, 8, 9, 10], [0, 1, 2, 3, 4, 5, 6, 7, 8, 9, 10, 11], [0, 1, 2, 3, 4, 5, 6, 7, 8, 9, 10, 11, 12, 14], [0, 1, 2, 3, 4, 5, 6, 7, 8, 9, 10, 11, 12, 13, 14, 15]]) (nthL [[], [0], [1], [2], [], [4], [5], [6], [3, 7], [8], [9], [10], [10], [10], [11], [12], [13]]) (nthK [.val (.pointer (some ⟨g0, 0, none⟩)), .val (.pointer (some ⟨g0, 0, none⟩)), .val (.pointer (some ⟨g0, 0, none⟩)), .val (.slice a2 p0.b_.length c3), .val (.pointer (some ⟨g0, 0, none⟩)), .val (.pointer (some ⟨g0, 0, none⟩)), .val (.pointer (some ⟨g0, 1, none⟩)), .val (.int .i64 p0.at_), .imm y5, .val (.tuple #[(.int .i64 x10), (.int .i64 x11), (.bool x12)]), .val (.tuple #[(.int .i64 x10), (.int .i64 x11), (.bool x12)]), .val (.int .i64 x10), .val (.int .i64 x11), .val (.bool x12), .val (.int .i64 x10), .val (.int .i64 x11), .val (.bool x12)]) [⟨none, none, [3, 7], [], fun _ => bl g0 #[(.slice a2 p0.b_.length c3), (.int .i64 p0.at_), (.bool p0.bad_)] 94⟩] (by kernel_rfl) (by kernel_rfl) (by kernel_rfl) (H := G) rfl ⟨?_, ?_, ?_, ?_, ?_, ?_, ?_, ?_, ?_, ?_, ?_, ?_, ?_, ?_, ?_, ?_, ?_, trivial⟩ ?_
  · intro Q ρ I1 H hI1 hk hpost
    have hc := Mem.le.refl I1
    refine mv rfl rfl ?_
    refine WL.nil ?_
    exact hpost _ _ hc rfl _ (fun _ hd => by obtain rfl := Option.some.inj hd; exact ⟨rfl, trivial⟩)
  · intro Q ρ I1 H hI1 hk hpost
    obtain ⟨_, -⟩ := hk
    have hc := Mem.le.refl I1
    refine nc rfl rfl ?_
    refine WL.nil ?_
    exact hpost _ _ hc rfl _ (fun _ hd => by obtain rfl := Option.some.inj hd; exact ⟨rfl, trivial⟩)
  · intro Q ρ I1 H hI1 hk hpost
    obtain ⟨_, -⟩ := hk
    have hc := Mem.le.refl I1
    refine fa fl94_0 rfl rfl ?_
    refine WL.nil ?_
    exact hpost _ _ hc rfl _ (fun _ hd => by obtain rfl := Option.some.inj hd; exact ⟨rfl, trivial⟩)
  · intro Q ρ I1 H hI1 hk hpost
    obtain ⟨_, -⟩ := hk
    have hc := Mem.le.refl I1
    refine ld 0 na22 rfl rfl rfl rfl ?_
    refine WL.nil ?_
    exact hpost _ _ hc rfl _ (fun _ hd => by obtain rfl := Option.some.inj hd; exact ⟨rfl, trivial⟩)
  · intro Q ρ I1 H hI1 hk hpost
    have hc := Mem.le.refl I1
    refine mv rfl rfl ?_
    refine WL.nil ?_
    exact hpost _ _ hc rfl _ (fun _ hd => by obtain rfl := Option.some.inj hd; exact ⟨rfl, trivial⟩)
  · intro Q ρ I1 H hI1 hk hpost
    obtain ⟨_, -⟩ := hk
    have hc := Mem.le.refl I1
    refine nc rfl rfl ?_
    refine WL.nil ?_
    exact hpost _ _ hc rfl _ (fun _ hd => by obtain rfl := Option.some.inj hd; exact ⟨rfl, trivial⟩)
  · intro Q ρ I1 H hI1 hk hpost
    obtain ⟨_, -⟩ := hk
    have hc := Mem.le.refl I1
    refine fa fl94_1 rfl rfl ?_
    refine WL.nil ?_
    exact hpost _ _ hc rfl _ (fun _ hd => by obtain rfl := Option.some.inj hd; exact ⟨rfl, trivial⟩)
  · intro Q ρ I1 H hI1 hk hpost
    obtain ⟨_, -⟩ := hk
    have hc := Mem.le.refl I1
    refine ld 0 na3 rfl rfl rfl rfl ?_
    refine WL.nil ?_
    exact hpost _ _ hc rfl _ (fun _ hd => by obtain rfl := Option.some.inj hd; exact ⟨rfl, trivial⟩)
  · intro Q ρ I1 H hI1 hk hpost
    obtain ⟨_, _, -⟩ := hk
    replace h4 := h4.up hI1
    have hc := Mem.le.refl I1
    refine cti (kl := .i64) (kh := .i64) et22 rfl h4 (.inr ⟨_, rfl, rfl, rfl⟩) (.inl ⟨rfl, rfl, rfl⟩) e6 rfl (fun a7 c8 h9 => ?_)
    refine WL.nil ?_
    exact hpost _ _ hc h9 _ (fun _ hd => by obtain rfl := Option.some.inj hd; exact ⟨rfl, trivial⟩)
  · intro Q ρ I1 H hI1 hk hpost
    obtain ⟨k8, -⟩ := hk
    have hc := Mem.le.refl I1
    refine call cl83 rfl rfl (W83 e13 k8) (fun _ J14 _ hJ15 q16 => ?_)
    have hc := hc.trans hJ15
    replace k8 := k8.up hJ15
    obtain ⟨rfl, rfl⟩ := q16
    refine WL.nil ?_
    exact hpost _ _ hc rfl _ (fun _ hd => by obtain rfl := Option.some.inj hd; exact ⟨rfl, trivial⟩)
  · intro Q ρ I1 H hI1 hk hpost
    obtain ⟨_, -⟩ := hk
    have hc := Mem.le.refl I1
    refine mv rfl rfl ?_
    refine WL.nil ?_
    exact hpost _ _ hc rfl _ (fun _ hd => by obtain rfl := Option.some.inj hd; exact ⟨rfl, trivial⟩)
  · intro Q ρ I1 H hI1 hk hpost
    obtain ⟨_, -⟩ := hk
    have hc := Mem.le.refl I1
    refine ex rfl rfl rfl ?_
    refine WL.nil ?_
    exact hpost _ _ hc rfl _ (fun _ hd => by obtain rfl := Option.some.inj hd; exact ⟨rfl, trivial⟩)
  · intro Q ρ I1 H hI1 hk hpost
    obtain ⟨_, -⟩ := hk
    have hc := Mem.le.refl I1
    refine ex rfl rfl rfl ?_
    refine WL.nil ?_
    exact hpost _ _ hc rfl _ (fun _ hd => by obtain rfl := Option.some.inj hd; exact ⟨rfl, trivial⟩)
  · intro Q ρ I1 H hI1 hk hpost
    obtain ⟨_, -⟩ := hk
    have hc := Mem.le.refl I1
    refine ex rfl rfl rfl ?_
    refine WL.nil ?_
    exact hpost _ _ hc rfl _ (fun _ hd => by obtain rfl := Option.some.inj hd; exact ⟨rfl, trivial⟩)
  · intro Q ρ I1 H hI1 hk hpost
    obtain ⟨_, -⟩ := hk
    have hc := Mem.le.refl I1
    refine asg rfl rfl ?_
    refine WL.nil ?_
    exact hpost _ _ hc rfl _ (fun _ hd => by obtain rfl := Option.some.inj hd; exact ⟨rfl, trivial⟩)
  · intro Q ρ I1 H hI1 hk hpost
    obtain ⟨_, -⟩ := hk
    have hc := Mem.le.refl I1
    refine asg rfl rfl ?_
    refine WL.nil ?_
    exact hpost _ _ hc rfl _ (fun _ hd => by obtain rfl := Option.some.inj hd; exact ⟨rfl, trivial⟩)
  · intro Q ρ I1 H hI1 hk hpost
    obtain ⟨_, -⟩ := hk
    have hc := Mem.le.refl I1
    refine asg rfl rfl ?_
    refine WL.nil ?_
    exact hpost _ _ hc rfl _ (fun _ hd => by obtain rfl := Option.some.inj hd; exact ⟨rfl, trivial⟩)
  rintro ρ J17 hJ18 -
  refine WX.sub (r := [(0, (.pointer (some ⟨g0, 0, none⟩))), (1, (.int .i64 p1)), (5, (.int .i64 x10)), (6, (.int .i64 x11)), (7, (.bool x12))]) ?_ ⟨rfl, rfl, rfl, rfl, rfl, trivial⟩
  refine WX.is (H := bl g0 #[(.slice a2 p0.b_.length c3), (.int .i64 p0.at_), (.bool p0.bad_)] 94 :: G) rfl ?_
  have hI := hI.trans hJ18
  replace h4 := h4.up hJ18
  refine WX.then_ ?_
  refine WC.seq ?_
  refine WC.seq ?_
  obtain ⟨j39, hj39, h⟩ := bnd h
  refine WC.joinQ (σ := span_Reader × Bool) (fun (s37, x38) => [(0, (.pointer (some ⟨g0, 0, none⟩))), (5, (.int .i64 x10)), (6, (.int .i64 x11)), (43, (.bool x38))]) (fun (s37, x38) => Ob_span_Reader g0 s37 :: G) (fun (s37, x38) J => (s37, x38) = j39) (fun kj39 => ?_) ?_
  · skip
    have lj39 := Mem.le.refl J17
    refine WC.region ?_
    refine mv rfl rfl ?_
    refine nc rfl rfl ?_
    refine fa fl94_2 rfl rfl ?_
    refine ld 0 na4 rfl rfl rfl rfl ?_
    refine mv rfl rfl ?_
    rcases spl hj39 with ⟨k40, hj39⟩ | ⟨k40, hj39⟩
    · skip
      refine WL.rb 27 rfl (bt1 k40) ?_
      refine WL.no rfl rfl rfl rfl ?_
      refine WL.no rfl rfl rfl rfl ?_
      refine pkT rfl rfl rfl ?_
      refine mv rfl rfl ?_
      refine WL.no rfl rfl rfl rfl ?_
      refine WL.no rfl rfl rfl rfl ?_
      refine WL.no rfl rfl rfl rfl ?_
      refine pkT rfl rfl rfl ?_
      refine mv rfl rfl ?_
      refine WL.no rfl rfl rfl rfl ?_
      refine WL.no rfl rfl rfl rfl ?_
      refine WL.no rfl rfl rfl rfl ?_
      refine WL.no rfl rfl rfl rfl ?_
      refine WL.no rfl rfl rfl rfl ?_
      refine WL.no rfl rfl rfl rfl ?_
      refine pkT rfl rfl rfl ?_
      refine WL.nil ?_
      refine WX.shut_span_Reader (⟨p0.b_, p0.at_, p0.bad_⟩ : span_Reader) h4 ?_
      exact (kj39 ⟨(⟨p0.b_, p0.at_, p0.bad_⟩ : span_Reader), true⟩ _ lj39 (Option.some.inj hj39)).sub ⟨rfl, rfl, rfl, rfl, trivial⟩
    refine WL.rb 27 rfl (bf1 k40) ?_
    refine WL.on rfl rfl ?_
    refine mv rfl rfl ?_
    refine WL.on rfl rfl ?_
    refine nt rfl rfl ?_
    refine pkF rfl rfl rfl ?_
    refine mv rfl rfl ?_
    rcases spl hj39 with ⟨k41, hj39⟩ | ⟨k41, hj39⟩
    · skip
      refine WL.rb 31 rfl (bt1n k41) ?_
      refine WL.on rfl rfl ?_
      refine mv rfl rfl ?_
      refine WL.on rfl rfl ?_
      refine mv rfl rfl ?_
      refine WL.on rfl rfl ?_
      refine gt rfl rfl rfl ?_
      refine pkF rfl rfl rfl ?_
      refine mv rfl rfl ?_
      rcases spl hj39 with ⟨k42, hj39⟩ | ⟨k42, hj39⟩
      · skip
        refine WL.rb 36 rfl (bT k42) ?_
        refine WL.no rfl rfl rfl rfl ?_
        refine WL.no rfl rfl rfl rfl ?_
        refine WL.no rfl rfl rfl rfl ?_
        refine WL.no rfl rfl rfl rfl ?_
        refine WL.no rfl rfl rfl rfl ?_
        refine WL.no rfl rfl rfl rfl ?_
        refine pkT rfl rfl rfl ?_
        refine WL.nil ?_
        refine WX.shut_span_Reader (⟨p0.b_, p0.at_, p0.bad_⟩ : span_Reader) h4 ?_
        exact (kj39 ⟨(⟨p0.b_, p0.at_, p0.bad_⟩ : span_Reader), true⟩ _ lj39 (Option.some.inj hj39)).sub ⟨rfl, rfl, rfl, rfl, trivial⟩
      refine WL.rb 36 rfl (bF k42) ?_
      refine WL.on rfl rfl ?_
      refine mv rfl rfl ?_
      refine WL.on rfl rfl ?_
      refine mv rfl rfl ?_
      refine WL.on rfl rfl ?_
      refine WL.shut_span_Reader (⟨p0.b_, p0.at_, p0.bad_⟩ : span_Reader) h4 ?_
      obtain ⟨⟨x43, s44⟩, e45, hj39⟩ := bnd hj39
      refine call cl48 rfl rfl (W48 e45) (fun _ J46 _ hJ47 q48 => ?_)
      have hI := hI.trans hJ47
      have lj39 := lj39.trans hJ47
      obtain ⟨rfl, rfl⟩ := q48
      refine WL.on rfl rfl ?_
      refine mv rfl rfl ?_
      refine WL.on rfl rfl ?_
      refine su rfl rfl rfl ?_
      refine WL.on rfl rfl ?_
      refine gt rfl rfl rfl ?_
      refine pkF rfl rfl rfl ?_
      refine WL.nil ?_
      exact (kj39 ⟨s44, (decide ((w64 (x43 - x11)) < x10))⟩ _ lj39 (Option.some.inj hj39)).sub ⟨rfl, rfl, rfl, rfl, trivial⟩
    refine WL.rb 31 rfl (bf1n k41) ?_
    refine WL.no rfl rfl rfl rfl ?_
    refine WL.no rfl rfl rfl rfl ?_
    refine WL.no rfl rfl rfl rfl ?_
    refine pkT rfl rfl rfl ?_
    refine mv rfl rfl ?_
    refine WL.no rfl rfl rfl rfl ?_
    refine WL.no rfl rfl rfl rfl ?_
    refine WL.no rfl rfl rfl rfl ?_
    refine WL.no rfl rfl rfl rfl ?_
    refine WL.no rfl rfl rfl rfl ?_
    refine WL.no rfl rfl rfl rfl ?_
    refine pkT rfl rfl rfl ?_
    refine WL.nil ?_
    refine WX.shut_span_Reader (⟨p0.b_, p0.at_, p0.bad_⟩ : span_Reader) h4 ?_
    exact (kj39 ⟨(⟨p0.b_, p0.at_, p0.bad_⟩ : span_Reader), true⟩ _ lj39 (Option.some.inj hj39)).sub ⟨rfl, rfl, rfl, rfl, trivial⟩
  rintro ⟨s37, x38⟩ J49 hJ50 rfl
  have hI := hI.trans hJ50
  refine WX.then_ ?_
  refine WC.iteb rfl h (fun k51 h => ?_) (fun k51 h => ?_)
  · skip
    refine WC.seq ?_
    refine WC.region ?_
    refine mv rfl rfl ?_
    refine nc rfl rfl ?_
    refine fa fl94_2 rfl rfl ?_
    refine WL.open_span_Reader (fun a52 c53 h54 => ?_)
    refine st (C' := #[(.slice a52 s37.b_.length c53), (.int .i64 s37.at_), (.bool true)]) sz4 rfl rfl rfl rfl rfl ?_
    refine WL.next ?_
    refine WC.seq ?_
    refine WC.region ?_
    refine asg rfl rfl ?_
    refine WL.next ?_
    refine WC.ret ?_
    refine WX.then_ret ?_
    refine WX.own_nil UInt8 5 ?_
    refine WX.front 1 ?_
    refine WX.shut_span_Reader (⟨s37.b_, s37.at_, true⟩ : span_Reader) h54 ?_
    refine WX.front 1 ?_
    cases h
    exact ret1 Try.results75 rfl hI ⟨_, _, rfl, rfl⟩
  refine WC.skip ?_
  refine WX.then_ ?_
  refine WC.seq ?_
  refine WC.region ?_
  refine mv rfl rfl ?_
  refine nc rfl rfl ?_
  refine fa fl94_1 rfl rfl ?_
  refine WL.open_span_Reader (fun a56 c57 h58 => ?_)
  refine ld 0 na3 rfl rfl rfl rfl ?_
  refine mv rfl rfl ?_
  refine ad rfl rfl rfl ?_
  refine asg rfl rfl ?_
  refine WL.next ?_
  refine WC.seq ?_
  refine WC.region ?_
  refine mv rfl rfl ?_
  refine mv rfl rfl ?_
  refine mv rfl rfl ?_
  refine ad rfl rfl rfl ?_
  refine nc rfl rfl ?_
  refine fa fl94_1 rfl rfl ?_
  refine st (C' := #[(.slice a56 s37.b_.length c57), (.int .i64 (w64 ((w64 (s37.at_ + x11)) + x10))), (.bool s37.bad_)]) sz3 rfl rfl rfl rfl rfl ?_
  refine WL.next ?_
  refine WC.seq ?_
  refine WC.sub (r := [(0, (.pointer (some ⟨g0, 0, none⟩))), (8, (.int .i64 (w64 (s37.at_ + x11))))]) ?_ ⟨rfl, rfl, trivial⟩
  obtain ⟨y59, e60, h⟩ := bnd h
  obtain ⟨x64, e65, h⟩ := bnd h
  refine WC.drawn mo (nthL [[], [0], [0, 1], [0, 1, 2], [], [], [5], [5, 6], [5, 6, 7], [0, 1, 2, 3, 4, 5, 6, 7, 8], [0, 1, 2, 3, 4, 5, 6, 7, 8, 9], [0, 1, 2, 3, 4, 5, 6, 7, 8, 9, 10]]) (nthL [[], [0], [1], [2], [], [], [5], [6], [7], [3, 4, 8], [9], [10]]) (nthK [.val (.pointer (some ⟨g0, 0, none⟩)), .val (.pointer (some ⟨g0, 0, none⟩)), .val (.pointer (some ⟨g0, 0, none⟩)), .val (.slice a56 s37.b_.length c57), .val (.int .i64 (w64 (s37.at_ + x11))), .val (.pointer (some ⟨g0, 0, none⟩)), .val (.pointer (some ⟨g0, 0, none⟩)), .val (.pointer (some ⟨g0, 1, none⟩)), .val (.int .i64 (w64 ((w64 (s37.at_ + x11)) + x10))), .imm y59, .any, .any]) [⟨none, none, [3, 8], [], fun _ => bl g0 #[(.slice a56 s37.b_.length c57), (.int .i64 (w64 ((w64 (s37.at_ + x11)) + x10))), (.bool s37.bad_)] 94⟩, ⟨(some 10), (some 11), [], [10], fun l => OV 5 (vget l 0) x64⟩, ⟨(some 11), none, [], [11], fun l => OV 5 (vget l 0) x64⟩] (by kernel_rfl) (by kernel_rfl) (by kernel_rfl) (H := G) rfl ⟨?_, ?_, ?_, ?_, ?_, ?_, ?_, ?_, ?_, ?_, ?_, ?_, trivial⟩ ?_
  · intro Q ρ I1 H hI1 hk hpost
    have hc := Mem.le.refl I1
    refine mv rfl rfl ?_
    refine WL.nil ?_
    exact hpost _ _ hc rfl _ (fun _ hd => by obtain rfl := Option.some.inj hd; exact ⟨rfl, trivial⟩)
  · intro Q ρ I1 H hI1 hk hpost
    obtain ⟨_, -⟩ := hk
    have hc := Mem.le.refl I1
    refine nc rfl rfl ?_
    refine WL.nil ?_
    exact hpost _ _ hc rfl _ (fun _ hd => by obtain rfl := Option.some.inj hd; exact ⟨rfl, trivial⟩)
  · intro Q ρ I1 H hI1 hk hpost
    obtain ⟨_, -⟩ := hk
    have hc := Mem.le.refl I1
    refine fa fl94_0 rfl rfl ?_
    refine WL.nil ?_
    exact hpost _ _ hc rfl _ (fun _ hd => by obtain rfl := Option.some.inj hd; exact ⟨rfl, trivial⟩)
  · intro Q ρ I1 H hI1 hk hpost
    obtain ⟨_, -⟩ := hk
    have hc := Mem.le.refl I1
    refine ld 0 na22 rfl rfl rfl rfl ?_
    refine WL.nil ?_
    exact hpost _ _ hc rfl _ (fun _ hd => by obtain rfl := Option.some.inj hd; exact ⟨rfl, trivial⟩)
  · intro Q ρ I1 H hI1 hk hpost
    have hc := Mem.le.refl I1
    refine mv rfl rfl ?_
    refine WL.nil ?_
    exact hpost _ _ hc rfl _ (fun _ hd => by obtain rfl := Option.some.inj hd; exact ⟨rfl, trivial⟩)
  · intro Q ρ I1 H hI1 hk hpost
    have hc := Mem.le.refl I1
    refine mv rfl rfl ?_
    refine WL.nil ?_
    exact hpost _ _ hc rfl _ (fun _ hd => by obtain rfl := Option.some.inj hd; exact ⟨rfl, trivial⟩)
  · intro Q ρ I1 H hI1 hk hpost
    obtain ⟨_, -⟩ := hk
    have hc := Mem.le.refl I1
    refine nc rfl rfl ?_
    refine WL.nil ?_
    exact hpost _ _ hc rfl _ (fun _ hd => by obtain rfl := Option.some.inj hd; exact ⟨rfl, trivial⟩)
  · intro Q ρ I1 H hI1 hk hpost
    obtain ⟨_, -⟩ := hk
    have hc := Mem.le.refl I1
    refine fa fl94_1 rfl rfl ?_
    refine WL.nil ?_
    exact hpost _ _ hc rfl _ (fun _ hd => by obtain rfl := Option.some.inj hd; exact ⟨rfl, trivial⟩)
  · intro Q ρ I1 H hI1 hk hpost
    obtain ⟨_, -⟩ := hk
    have hc := Mem.le.refl I1
    refine ld 0 na3 rfl rfl rfl rfl ?_
    refine WL.nil ?_
    exact hpost _ _ hc rfl _ (fun _ hd => by obtain rfl := Option.some.inj hd; exact ⟨rfl, trivial⟩)
  · intro Q ρ I1 H hI1 hk hpost
    obtain ⟨_, _, _, -⟩ := hk
    replace h58 := h58.up hI1
    have hc := Mem.le.refl I1
    refine cti (kl := .i64) (kh := .i64) et22 rfl h58 (.inr ⟨_, rfl, rfl, rfl⟩) (.inr ⟨_, rfl, rfl, rfl⟩) e60 rfl (fun a61 c62 h63 => ?_)
    refine WL.nil ?_
    exact hpost _ _ hc h63 _ (fun _ hd => by obtain rfl := Option.some.inj hd; exact ⟨rfl, trivial⟩)
  · intro Q ρ I1 H hI1 hk hpost
    obtain ⟨k9, -⟩ := hk
    have hc := Mem.le.refl I1
    refine call cl57 rfl rfl (W57 e65 k9) (fun _ J66 _ hJ67 q68 => ?_)
    have hc := hc.trans hJ67
    replace k9 := k9.up hJ67
    obtain ⟨a69, c70, rfl, rfl⟩ := q68
    refine WL.nil ?_
    exact hpost _ _ hc trivial _ (fun _ hd => by obtain rfl := Option.some.inj hd; exact ⟨rfl, trivial⟩)
  · intro Q ρ I1 H hI1 hk hpost
    obtain ⟨_, -⟩ := hk
    have hc := Mem.le.refl I1
    refine asg rfl rfl ?_
    refine WL.nil ?_
    exact hpost _ _ hc trivial _ (fun _ hd => by obtain rfl := Option.some.inj hd; exact ⟨rfl, trivial⟩)
  rintro ρ J72 hJ73 -
  refine WX.sub (r := [(4, (ρ 11))]) ?_ ⟨rfl, trivial⟩
  refine WX.is (H := bl g0 #[(.slice a56 s37.b_.length c57), (.int .i64 (w64 ((w64 (s37.at_ + x11)) + x10))), (.bool s37.bad_)] 94 :: OV 5 (ρ 11) x64 :: G) rfl ?_
  have hI := hI.trans hJ73
  replace h58 := h58.up hJ73
  refine WX.front 1 ?_
  generalize ρ 11 = uv74 at *; refine WX.hd (fun a75 c76 e => ?_); subst e
  refine WX.then_ ?_
  refine WC.ret ?_
  refine WX.front 1 ?_
  refine WX.shut_span_Reader (⟨s37.b_, w64 ((w64 (s37.at_ + x11)) + x10), s37.bad_⟩ : span_Reader) h58 ?_
  refine WX.front 1 ?_
  cases h
  exact ret1 Try.results75 rfl hI ⟨_, _, rfl, rfl⟩
theorem W49 {I : Mem} {G : List Asn} {p0 : span_Reader} {r : Bool × span_Reader} (h : span_Reader_Bad p0 = some r) {g0 : Nat} :
    CallsS Try.prog 49 #[.pointer (some ⟨g0, 0, none⟩)] I (Ob_span_Reader g0 p0 :: G) (fun v J G' => v = .bool r.1 ∧ Ob_span_Reader g0 (r.2) :: G = G') := by
  refine CallsS.enter Try.func49 rfl Try.ntmps49 rfl (fun w0 => ?_)
  have hI := Mem.le.refl I
  unfold span_Reader_Bad at h
  refine WC.seq ?_
  refine WC.region ?_
  refine asg rfl rfl ?_
  refine WL.next ?_
  refine WC.seq ?_
  refine WC.region ?_
  refine mv rfl rfl ?_
  refine nc rfl rfl ?_
  refine fa fl94_2 rfl rfl ?_
  refine WL.open_span_Reader (fun a2 c3 h4 => ?_)
  refine ld 0 na4 rfl rfl rfl rfl ?_
  refine asg rfl rfl ?_
  refine WL.next ?_
  refine WC.ret ?_
  refine WX.shut_span_Reader (⟨p0.b_, p0.at_, p0.bad_⟩ : span_Reader) h4 ?_
  cases h
  exact ret1 Try.results49 rfl hI ⟨rfl, rfl⟩
theorem W52 {I : Mem} {G : List Asn} {p0 : span_Reader} {r : Int × span_Reader} (h : span_Reader_At p0 = some r) {g0 : Nat} :
    CallsS Try.prog 52 #[.pointer (some ⟨g0, 0, none⟩)] I (Ob_span_Reader g0 p0 :: G) (fun v J G' => v = .int .i64 r.1 ∧ Ob_span_Reader g0 (r.2) :: G = G') := by
  refine CallsS.enter Try.func52 rfl Try.ntmps52 rfl (fun w0 => ?_)
  have hI := Mem.le.refl I
  unfold span_Reader_At at h
  refine WC.seq ?_
  refine WC.region ?_
  refine asg rfl rfl ?_
  refine WL.next ?_
  refine WC.seq ?_
  refine WC.region ?_
  refine mv rfl rfl ?_
  refine nc rfl rfl ?_
  refine fa fl94_1 rfl rfl ?_
  refine WL.open_span_Reader (fun a2 c3 h4 => ?_)
  refine ld 0 na3 rfl rfl rfl rfl ?_
  refine asg rfl rfl ?_
  refine WL.next ?_
  refine WC.ret ?_
  refine WX.shut_span_Reader (⟨p0.b_, p0.at_, p0.bad_⟩ : span_Reader) h4 ?_
  cases h
  exact ret1 Try.results52 rfl hI ⟨rfl, rfl⟩
theorem W45 {I : Mem} {G : List Asn} {p0 : List UInt8} {r : Int × Int × Bool} (h : haulierref01_Take p0 = some r) {u0 : Value} (hp0 : IV I u0 p0) :
    CallsS Try.prog 45 #[u0] I (G) (fun v J G' => v = .tuple #[.int .i64 r.1, .int .i64 r.2.1, .bool r.2.2] ∧ G = G') := by
  refine CallsS.enter Try.func45 rfl Try.ntmps45 rfl (fun w0 => ?_)
  have hI := Mem.le.refl I
  obtain ⟨a0, c0, rfl⟩ := hp0.hd
  unfold haulierref01_Take at h
  refine WC.seq ?_
  refine WC.region ?_
  refine asg rfl rfl ?_
  refine asg rfl rfl ?_
  refine asg rfl rfl ?_
  refine WL.next ?_
  refine WC.seq ?_
  refine WC.seq ?_
  refine WC.region ?_
  refine mv rfl rfl ?_
  refine ln et22 rfl (hp0.rd) rfl ?_
  refine eq rfl rfl rfl ?_
  refine WL.next ?_
  refine WC.ite rfl h (fun k1 h => ?_) (fun k1 h => ?_)
  · skip
    refine WC.seq ?_
    refine WC.region ?_
    refine asg rfl rfl ?_
    refine asg rfl rfl ?_
    refine asg rfl rfl ?_
    refine WL.next ?_
    refine WC.ret ?_
    refine WX.then_ret ?_
    cases h
    exact ret3 Try.results45 rfl rfl rfl hI ⟨rfl, rfl⟩
  refine WC.skip ?_
  refine WX.then_ ?_
  refine WC.seq ?_
  refine WC.region ?_
  refine mv rfl rfl ?_
  obtain ⟨z2, e3, h⟩ := bnd h
  refine ixi et22 rfl rfl hp0 e3 rfl (fun uv4 h5 => ?_)
  refine ldi (α := UInt8) na5 rfl h5 rfl (fun uv6 h7 => ?_)
  obtain rfl := h7.u8
  refine srb (a := z2) (by decide) rfl rfl rfl rfl ?_
  refine cv8_64 Try.underlying5 Try.underlying62 rfl rfl ?_
  refine sl (Int.natCast_nonneg _) rfl rfl rfl ?_
  obtain ⟨x8, e9, h⟩ := bnd h
  refine WL.re (congrArg (Value.int .i64) (Option.some.inj e9)) ?_
  refine asg rfl rfl ?_
  refine WL.next ?_
  refine WC.seq ?_
  refine WC.seq ?_
  refine WC.region ?_
  refine mv rfl rfl ?_
  refine ln et22 rfl (hp0.rd) rfl ?_
  refine mv rfl rfl ?_
  refine lt rfl rfl rfl ?_
  refine WL.next ?_
  refine WC.ite rfl h (fun k10 h => ?_) (fun k10 h => ?_)
  · skip
    refine WC.seq ?_
    refine WC.region ?_
    refine asg rfl rfl ?_
    refine asg rfl rfl ?_
    refine asg rfl rfl ?_
    refine WL.next ?_
    refine WC.ret ?_
    refine WX.then_ret ?_
    cases h
    exact ret3 Try.results45 rfl rfl rfl hI ⟨rfl, rfl⟩
  refine WC.skip ?_
  refine WX.then_ ?_
  refine WC.seq ?_
  refine WC.region ?_
  refine mv rfl rfl ?_
  obtain ⟨z11, e12, h⟩ := bnd h
  refine ixi et22 rfl rfl hp0 e12 rfl (fun uv13 h14 => ?_)
  refine ldi (α := UInt8) na5 rfl h14 rfl (fun uv15 h16 => ?_)
  obtain rfl := h16.u8
  refine rm8 (a := z11) (b := (64 : UInt8)) (by decide) rfl rfl rfl rfl rfl ?_
  refine cv8i Try.underlying5 Try.underlying3 rfl rfl ?_
  refine asg rfl rfl ?_
  refine WL.next ?_
  refine WC.seq ?_
  refine WC.seq ?_
  refine WC.region ?_
  refine asg rfl rfl ?_
  refine WL.next ?_
  refine WC.block ?_
  refine WC.loop (σ := Int × Int) (fun k (x17, x18) => haulierref01_Take_l0 p0 x8 k x17 x18) _ (fun (x17, x18) => [(0, (.slice a0 p0.length c0)), (5, (.int .i64 x8)), (6, (.int .i64 x17)), (7, (.int .i64 x18))]) (fun (x17, x18) => G) (fun (x17, x18) J => True) (fun ⟨x17, x18⟩ => rfl) bigN ⟨((z11 % (64 : UInt8)).toNat : Int), 1⟩ h trivial ⟨rfl, rfl, rfl, rfl, trivial⟩ rfl ?_
  rintro k0 ih0 ⟨x17, x18⟩ J29 hJ30 - h
  change haulierref01_Take_l0 p0 x8 (k0 + 1) x17 x18 = _ at h
  rw [haulierref01_Take_l0] at h
  have hI := hI.trans hJ30
  replace hp0 := hp0.up hJ30
  have ll0 := hJ30
  refine WC.seq ?_
  refine WC.seq ?_
  refine WC.region ?_
  refine mv rfl rfl ?_
  refine mv rfl rfl ?_
  refine lt rfl rfl rfl ?_
  refine WL.next ?_
  refine WC.ite rfl h (fun k31 h => ?_) (fun k31 h => ?_)
  · skip
    refine WC.skip ?_
    refine WX.then_ ?_
    refine WC.seq ?_
    refine WC.block ?_
    refine WC.region ?_
    refine mv rfl rfl ?_
    refine sl (by decide) rfl rfl rfl ?_
    refine mv rfl rfl ?_
    refine mv rfl rfl ?_
    obtain ⟨z32, e33, h⟩ := bnd h
    refine ixi et22 rfl rfl hp0 e33 rfl (fun uv34 h35 => ?_)
    refine ldi (α := UInt8) na5 rfl h35 rfl (fun uv36 h37 => ?_)
    obtain rfl := h37.u8
    refine cv8i Try.underlying5 Try.underlying3 rfl rfl ?_
    refine bt (.inr (.inl rfl)) rfl rfl rfl ?_
    obtain ⟨x38, e39, h⟩ := bnd h
    refine WL.re (congrArg (Value.int .i64) (Option.some.inj e39)) ?_
    refine asg rfl rfl ?_
    refine WL.nil ?_
    refine WX.block_normal ?_
    refine WX.then_ ?_
    refine WC.region ?_
    refine mv rfl rfl ?_
    refine ad rfl rfl rfl ?_
    refine asg rfl rfl ?_
    refine WL.nil ?_
    refine WX.round ?_
    exact (ih0 ⟨x38, w64 (x18 + 1)⟩ _ ll0 trivial h).sub ⟨rfl, rfl, rfl, rfl, trivial⟩
  refine WC.exit ?_
  refine WX.then_exit ?_
  refine WX.then_exit ?_
  refine WX.block_here ?_
  refine WX.then_ ?_
  refine WC.seq ?_
  refine WC.seq ?_
  refine WC.region ?_
  refine mv rfl rfl ?_
  obtain ⟨x40, e41, h⟩ := bnd h
  refine call cl72 rfl rfl (W72 e41) (fun _ J42 _ hJ43 q44 => ?_)
  have hI := hI.trans hJ43
  have ll0 := ll0.trans hJ43
  replace hp0 := hp0.up hJ43
  obtain ⟨rfl, rfl⟩ := q44
  refine mv rfl rfl ?_
  refine ne rfl rfl rfl ?_
  refine WL.next ?_
  refine WC.ite rfl h (fun k45 h => ?_) (fun k45 h => ?_)
  · skip
    refine WC.seq ?_
    refine WC.region ?_
    refine asg rfl rfl ?_
    refine asg rfl rfl ?_
    refine asg rfl rfl ?_
    refine WL.next ?_
    refine WC.ret ?_
    refine WX.then_ret ?_
    cases h
    exact ret3 Try.results45 rfl rfl rfl hI ⟨rfl, rfl⟩
  refine WC.skip ?_
  refine WX.then_ ?_
  refine WC.seq ?_
  refine WC.region ?_
  refine mv rfl rfl ?_
  refine mv rfl rfl ?_
  refine asg rfl rfl ?_
  refine asg rfl rfl ?_
  refine asg rfl rfl ?_
  refine WL.next ?_
  refine WC.ret ?_
  cases h
  exact ret3 Try.results45 rfl rfl rfl hI ⟨rfl, rfl⟩
theorem W73 {I : Mem} {G : List Asn} {p0 : span_Reader} {r : UInt8 × span_Reader} (h : span_Reader_Byte p0 = some r) {g0 : Nat} :
    CallsS Try.prog 73 #[.pointer (some ⟨g0, 0, none⟩)] I (Ob_span_Reader g0 p0 :: G) (fun v J G' => v = .int .u8 (r.1.toNat : Int) ∧ Ob_span_Reader g0 (r.2) :: G = G') := by
  refine CallsS.enter Try.func73 rfl Try.ntmps73 rfl (fun w0 => ?_)
  have hI := Mem.le.refl I
  unfold span_Reader_Byte at h
  refine WC.seq ?_
  refine WC.region ?_
  refine asg rfl rfl ?_
  refine WL.next ?_
  refine WC.seq ?_
  refine WC.seq ?_
  obtain ⟨j24, hj24, h⟩ := bnd h
  refine WC.joinQ (σ := span_Reader × Bool) (fun (s22, x23) => [(0, (.pointer (some ⟨g0, 0, none⟩))), (11, (.bool x23))]) (fun (s22, x23) => Ob_span_Reader g0 s22 :: G) (fun (s22, x23) J => (s22, x23) = j24) (fun kj24 => ?_) ?_
  · skip
    have lj24 := Mem.le.refl I
    refine WC.region ?_
    refine mv rfl rfl ?_
    refine nc rfl rfl ?_
    refine fa fl94_2 rfl rfl ?_
    refine WL.open_span_Reader (fun a25 c26 h27 => ?_)
    refine ld 0 na4 rfl rfl rfl rfl ?_
    refine mv rfl rfl ?_
    rcases spl hj24 with ⟨k28, hj24⟩ | ⟨k28, hj24⟩
    · skip
      refine WL.rb 7 rfl (bt1 k28) ?_
      refine WL.no rfl rfl rfl rfl ?_
      refine WL.no rfl rfl rfl rfl ?_
      refine WL.no rfl rfl rfl rfl ?_
      refine pkT rfl rfl rfl ?_
      refine WL.nil ?_
      refine WX.shut_span_Reader (⟨p0.b_, p0.at_, p0.bad_⟩ : span_Reader) h27 ?_
      exact (kj24 ⟨(⟨p0.b_, p0.at_, p0.bad_⟩ : span_Reader), true⟩ _ lj24 (Option.some.inj hj24)).sub ⟨rfl, rfl, trivial⟩
    refine WL.rb 7 rfl (bf1 k28) ?_
    refine WL.on rfl rfl ?_
    refine mv rfl rfl ?_
    refine WL.on rfl rfl ?_
    refine WL.shut_span_Reader (⟨p0.b_, p0.at_, p0.bad_⟩ : span_Reader) h27 ?_
    obtain ⟨⟨x29, s30⟩, e31, hj24⟩ := bnd hj24
    refine call cl48 rfl rfl (W48 e31) (fun _ J32 _ hJ33 q34 => ?_)
    have hI := hI.trans hJ33
    have lj24 := lj24.trans hJ33
    obtain ⟨rfl, rfl⟩ := q34
    refine WL.on rfl rfl ?_
    refine eq rfl rfl rfl ?_
    refine pkF rfl rfl rfl ?_
    refine WL.nil ?_
    exact (kj24 ⟨s30, (decide (x29 = 0))⟩ _ lj24 (Option.some.inj hj24)).sub ⟨rfl, rfl, trivial⟩
  rintro ⟨s22, x23⟩ J35 hJ36 rfl
  have hI := hI.trans hJ36
  refine WX.then_ ?_
  refine WC.iteb rfl h (fun k37 h => ?_) (fun k37 h => ?_)
  · skip
    refine WC.seq ?_
    refine WC.region ?_
    refine mv rfl rfl ?_
    refine nc rfl rfl ?_
    refine fa fl94_2 rfl rfl ?_
    refine WL.open_span_Reader (fun a38 c39 h40 => ?_)
    refine st (C' := #[(.slice a38 s22.b_.length c39), (.int .i64 s22.at_), (.bool true)]) sz4 rfl rfl rfl rfl rfl ?_
    refine WL.next ?_
    refine WC.seq ?_
    refine WC.region ?_
    refine asg rfl rfl ?_
    refine WL.next ?_
    refine WC.ret ?_
    refine WX.then_ret ?_
    refine WX.shut_span_Reader (⟨s22.b_, s22.at_, true⟩ : span_Reader) h40 ?_
    cases h
    exact ret1 Try.results73 rfl hI ⟨rfl, rfl⟩
  refine WC.skip ?_
  refine WX.then_ ?_
  refine WC.seq ?_
  refine WC.region ?_
  refine mv rfl rfl ?_
  refine nc rfl rfl ?_
  refine fa fl94_1 rfl rfl ?_
  refine WL.open_span_Reader (fun a41 c42 h43 => ?_)
  refine ld 0 na3 rfl rfl rfl rfl ?_
  refine ad rfl rfl rfl ?_
  refine nc rfl rfl ?_
  refine fa fl94_1 rfl rfl ?_
  refine st (C' := #[(.slice a41 s22.b_.length c42), (.int .i64 (w64 (s22.at_ + 1))), (.bool s22.bad_)]) sz3 rfl rfl rfl rfl rfl ?_
  refine WL.next ?_
  refine WC.seq ?_
  refine WC.sub (r := [(0, (.pointer (some ⟨g0, 0, none⟩)))]) ?_ ⟨rfl, trivial⟩
  obtain ⟨z44, e45, h⟩ := bnd h
  refine WC.drawn mo (nthL [[], [0], [0, 1], [0, 1, 2], [], [4], [4, 5], [4, 5, 6], [4, 5, 6, 7], [0, 1, 2, 3, 4, 5, 6, 7, 8], [0, 1, 2, 3, 4, 5, 6, 7, 8, 9], [0, 1, 2, 3, 4, 5, 6, 7, 8, 9, 10]]) (nthL [[], [0], [1], [2], [], [4], [5], [6], [7], [3, 8], [9], [10]]) (nthK [.val (.pointer (some ⟨g0, 0, none⟩)), .val (.pointer (some ⟨g0, 0, none⟩)), .val (.pointer (some ⟨g0, 0, none⟩)), .val (.slice a41 s22.b_.length c42), .val (.pointer (some ⟨g0, 0, none⟩)), .val (.pointer (some ⟨g0, 0, none⟩)), .val (.pointer (some ⟨g0, 1, none⟩)), .val (.int .i64 (w64 (s22.at_ + 1))), .val (.int .i64 (w64 ((w64 (s22.at_ + 1)) - 1))), .ip z44, .val (.int .u8 (z44.toNat : Int)), .val (.int .u8 (z44.toNat : Int))]) [⟨none, none, [3, 7], [], fun _ => bl g0 #[(.slice a41 s22.b_.length c42), (.int .i64 (w64 (s22.at_ + 1))), (.bool s22.bad_)] 94⟩] (by kernel_rfl) (by kernel_rfl) (by kernel_rfl) (H := G) rfl ⟨?_, ?_, ?_, ?_, ?_, ?_, ?_, ?_, ?_, ?_, ?_, ?_, trivial⟩ ?_
  · intro Q ρ I1 H hI1 hk hpost
    have hc := Mem.le.refl I1
    refine mv rfl rfl ?_
    refine WL.nil ?_
    exact hpost _ _ hc rfl _ (fun _ hd => by obtain rfl := Option.some.inj hd; exact ⟨rfl, trivial⟩)
  · intro Q ρ I1 H hI1 hk hpost
    obtain ⟨_, -⟩ := hk
    have hc := Mem.le.refl I1
    refine nc rfl rfl ?_
    refine WL.nil ?_
    exact hpost _ _ hc rfl _ (fun _ hd => by obtain rfl := Option.some.inj hd; exact ⟨rfl, trivial⟩)
  · intro Q ρ I1 H hI1 hk hpost
    obtain ⟨_, -⟩ := hk
    have hc := Mem.le.refl I1
    refine fa fl94_0 rfl rfl ?_
    refine WL.nil ?_
    exact hpost _ _ hc rfl _ (fun _ hd => by obtain rfl := Option.some.inj hd; exact ⟨rfl, trivial⟩)
  · intro Q ρ I1 H hI1 hk hpost
    obtain ⟨_, -⟩ := hk
    have hc := Mem.le.refl I1
    refine ld 0 na22 rfl rfl rfl rfl ?_
    refine WL.nil ?_
    exact hpost _ _ hc rfl _ (fun _ hd => by obtain rfl := Option.some.inj hd; exact ⟨rfl, trivial⟩)
  · intro Q ρ I1 H hI1 hk hpost
    have hc := Mem.le.refl I1
    refine mv rfl rfl ?_
    refine WL.nil ?_
    exact hpost _ _ hc rfl _ (fun _ hd => by obtain rfl := Option.some.inj hd; exact ⟨rfl, trivial⟩)
  · intro Q ρ I1 H hI1 hk hpost
    obtain ⟨_, -⟩ := hk
    have hc := Mem.le.refl I1
    refine nc rfl rfl ?_
    refine WL.nil ?_
    exact hpost _ _ hc rfl _ (fun _ hd => by obtain rfl := Option.some.inj hd; exact ⟨rfl, trivial⟩)
  · intro Q ρ I1 H hI1 hk hpost
    obtain ⟨_, -⟩ := hk
    have hc := Mem.le.refl I1
    refine fa fl94_1 rfl rfl ?_
    refine WL.nil ?_
    exact hpost _ _ hc rfl _ (fun _ hd => by obtain rfl := Option.some.inj hd; exact ⟨rfl, trivial⟩)
  · intro Q ρ I1 H hI1 hk hpost
    obtain ⟨_, -⟩ := hk
    have hc := Mem.le.refl I1
    refine ld 0 na3 rfl rfl rfl rfl ?_
    refine WL.nil ?_
    exact hpost _ _ hc rfl _ (fun _ hd => by obtain rfl := Option.some.inj hd; exact ⟨rfl, trivial⟩)
  · intro Q ρ I1 H hI1 hk hpost
    obtain ⟨_, -⟩ := hk
    have hc := Mem.le.refl I1
    refine su rfl rfl rfl ?_
    refine WL.nil ?_
    exact hpost _ _ hc rfl _ (fun _ hd => by obtain rfl := Option.some.inj hd; exact ⟨rfl, trivial⟩)
  · intro Q ρ I1 H hI1 hk hpost
    obtain ⟨_, _, -⟩ := hk
    replace h43 := h43.up hI1
    have hc := Mem.le.refl I1
    refine ixi et22 rfl rfl h43 e45 rfl (fun uv46 h47 => ?_)
    refine WL.nil ?_
    exact hpost _ _ hc h47 _ (fun _ hd => by obtain rfl := Option.some.inj hd; exact ⟨rfl, trivial⟩)
  · intro Q ρ I1 H hI1 hk hpost
    obtain ⟨k9, -⟩ := hk
    have hc := Mem.le.refl I1
    refine ldi (α := UInt8) na5 rfl k9 rfl (fun uv48 h49 => ?_)
    obtain rfl := h49.u8
    refine WL.nil ?_
    exact hpost _ _ hc rfl _ (fun _ hd => by obtain rfl := Option.some.inj hd; exact ⟨rfl, trivial⟩)
  · intro Q ρ I1 H hI1 hk hpost
    obtain ⟨_, -⟩ := hk
    have hc := Mem.le.refl I1
    refine asg rfl rfl ?_
    refine WL.nil ?_
    exact hpost _ _ hc rfl _ (fun _ hd => by obtain rfl := Option.some.inj hd; exact ⟨rfl, trivial⟩)
  rintro ρ J50 hJ51 -
  refine WX.sub (r := [(2, (.int .u8 (z44.toNat : Int)))]) ?_ ⟨rfl, trivial⟩
  refine WX.is (H := bl g0 #[(.slice a41 s22.b_.length c42), (.int .i64 (w64 (s22.at_ + 1))), (.bool s22.bad_)] 94 :: G) rfl ?_
  have hI := hI.trans hJ51
  replace h43 := h43.up hJ51
  refine WX.then_ ?_
  refine WC.ret ?_
  refine WX.shut_span_Reader (⟨s22.b_, w64 (s22.at_ + 1), s22.bad_⟩ : span_Reader) h43 ?_
  cases h
  exact ret1 Try.results73 rfl hI ⟨rfl, rfl⟩
theorem W74 {I : Mem} {G : List Asn} {p0 : span_Reader} {r : Int × span_Reader} (h : span_Reader_Number p0 = some r) {g0 : Nat} :
    CallsS Try.prog 74 #[.pointer (some ⟨g0, 0, none⟩)] I (Ob_span_Reader g0 p0 :: G) (fun v J G' => v = .int .i64 r.1 ∧ Ob_span_Reader g0 (r.2) :: G = G') := by
  refine CallsS.enter Try.func74 rfl Try.ntmps74 rfl (fun w0 => ?_)
  have hI := Mem.le.refl I
  unfold span_Reader_Number at h
  refine WC.seq ?_
  refine WC.region ?_
  refine asg rfl rfl ?_
  refine WL.next ?_
  refine WC.seq ?_
  refine WC.open_span_Reader (fun a2 c3 h4 => ?_)
  refine WC.sub (r := [(0, (.pointer (some ⟨g0, 0, none⟩)))]) ?_ ⟨rfl, trivial⟩
  obtain ⟨y5, e6, h⟩ := bnd h
  obtain ⟨⟨x10, x11, x12⟩, e13, h⟩ := bnd h
  refine WC.drawn mo (nthL [[], [0], [0, 1], [0, 1, 2], [], [4], [4, 5], [4, 5, 6], [0, 1, 2, 3, 4, 5, 6, 7], [0, 1, 2, 3, 4, 5, 6, 7, 8], [0, 1, 2, 3, 4, 5, 6, 7, 8, 9], [0, 1, 2, 3, 4, 5, 6, 7, 8, 9, 10], [0, 1, 2, 3, 4, 5, 6, 7, 8, 9, 10], [0, 1, 2, 3, 4, 5, 6, 7, 8, 9, 10], [0, 1, 2, 3, 4, 5, 6, 7, 8, 9, 10, 11], [0, 1, 2, 3, 4, 5, 6, 7, 8, 9, 10, 11, 12, 14], [0, 1, 2, 3, 4, 5, 6, 7, 8, 9, 10, 11, 12, 13, 14, 15]]) (nthL [[], [0], [1], [2], [], [4], [5], [6], [3, 7], [8], [9], [10], [10], [10], [11], [12], [13]]) (nthK [.val (.pointer (some ⟨g0, 0, none⟩)), .val (.pointer (some ⟨g0, 0, none⟩)), .val (.pointer (some ⟨g0, 0, none⟩)), .val (.slice a2 p0.b_.length c3), .val (.pointer (some ⟨g0, 0, none⟩)), .val (.pointer (some ⟨g0, 0, none⟩)), .val (.pointer (some ⟨g0, 1, none⟩)), .val (.int .i64 p0.at_), .imm y5, .val (.tuple #[(.int .i64 x10), (.int .i64 x11), (.bool x12)]), .val (.tuple #[(.int .i64 x10), (.int .i64 x11), (.bool x12)]), .val (.int .i64 x10), .val (.int .i64 x11), .val (.bool x12), .val (.int .i64 x10), .val (.int .i64 x11), .val (.bool x12)]) [⟨none, none, [3, 7], [], fun _ => bl g0 #[(.slice a2 p0.b_.length c3), (.int .i64 p0.at_), (.bool p0.bad_)] 94⟩] (by kernel_rfl) (by kernel_rfl) (by kernel_rfl) (H := G) rfl ⟨?_, ?_, ?_, ?_, ?_, ?_, ?_, ?_, ?_, ?_, ?_, ?_, ?_, ?_, ?_, ?_, ?_, trivial⟩ ?_
  · intro Q ρ I1 H hI1 hk hpost
    have hc := Mem.le.refl I1
    refine mv rfl rfl ?_
    refine WL.nil ?_
    exact hpost _ _ hc rfl _ (fun _ hd => by obtain rfl := Option.some.inj hd; exact ⟨rfl, trivial⟩)
  · intro Q ρ I1 H hI1 hk hpost
    obtain ⟨_, -⟩ := hk
    have hc := Mem.le.refl I1
    refine nc rfl rfl ?_
    refine WL.nil ?_
    exact hpost _ _ hc rfl _ (fun _ hd => by obtain rfl := Option.some.inj hd; exact ⟨rfl, trivial⟩)
  · intro Q ρ I1 H hI1 hk hpost
    obtain ⟨_, -⟩ := hk
    have hc := Mem.le.refl I1
    refine fa fl94_0 rfl rfl ?_
    refine WL.nil ?_
    exact hpost _ _ hc rfl _ (fun _ hd => by obtain rfl := Option.some.inj hd; exact ⟨rfl, trivial⟩)
  · intro Q ρ I1 H hI1 hk hpost
    obtain ⟨_, -⟩ := hk
    have hc := Mem.le.refl I1
    refine ld 0 na22 rfl rfl rfl rfl ?_
    refine WL.nil ?_
    exact hpost _ _ hc rfl _ (fun _ hd => by obtain rfl := Option.some.inj hd; exact ⟨rfl, trivial⟩)
  · intro Q ρ I1 H hI1 hk hpost
    have hc := Mem.le.refl I1
    refine mv rfl rfl ?_
    refine WL.nil ?_
    exact hpost _ _ hc rfl _ (fun _ hd => by obtain rfl := Option.some.inj hd; exact ⟨rfl, trivial⟩)
  · intro Q ρ I1 H hI1 hk hpost
    obtain ⟨_, -⟩ := hk
    have hc := Mem.le.refl I1
    refine nc rfl rfl ?_
    refine WL.nil ?_
    exact hpost _ _ hc rfl _ (fun _ hd => by obtain rfl := Option.some.inj hd; exact ⟨rfl, trivial⟩)
  · intro Q ρ I1 H hI1 hk hpost
    obtain ⟨_, -⟩ := hk
    have hc := Mem.le.refl I1
    refine fa fl94_1 rfl rfl ?_
    refine WL.nil ?_
    exact hpost _ _ hc rfl _ (fun _ hd => by obtain rfl := Option.some.inj hd; exact ⟨rfl, trivial⟩)
  · intro Q ρ I1 H hI1 hk hpost
    obtain ⟨_, -⟩ := hk
    have hc := Mem.le.refl I1
    refine ld 0 na3 rfl rfl rfl rfl ?_
    refine WL.nil ?_
    exact hpost _ _ hc rfl _ (fun _ hd => by obtain rfl := Option.some.inj hd; exact ⟨rfl, trivial⟩)
  · intro Q ρ I1 H hI1 hk hpost
    obtain ⟨_, _, -⟩ := hk
    replace h4 := h4.up hI1
    have hc := Mem.le.refl I1
    refine cti (kl := .i64) (kh := .i64) et22 rfl h4 (.inr ⟨_, rfl, rfl, rfl⟩) (.inl ⟨rfl, rfl, rfl⟩) e6 rfl (fun a7 c8 h9 => ?_)
    refine WL.nil ?_
    exact hpost _ _ hc h9 _ (fun _ hd => by obtain rfl := Option.some.inj hd; exact ⟨rfl, trivial⟩)
  · intro Q ρ I1 H hI1 hk hpost
    obtain ⟨k8, -⟩ := hk
    have hc := Mem.le.refl I1
    refine call cl83 rfl rfl (W83 e13 k8) (fun _ J14 _ hJ15 q16 => ?_)
    have hc := hc.trans hJ15
    replace k8 := k8.up hJ15
    obtain ⟨rfl, rfl⟩ := q16
    refine WL.nil ?_
    exact hpost _ _ hc rfl _ (fun _ hd => by obtain rfl := Option.some.inj hd; exact ⟨rfl, trivial⟩)
  · intro Q ρ I1 H hI1 hk hpost
    obtain ⟨_, -⟩ := hk
    have hc := Mem.le.refl I1
    refine mv rfl rfl ?_
    refine WL.nil ?_
    exact hpost _ _ hc rfl _ (fun _ hd => by obtain rfl := Option.some.inj hd; exact ⟨rfl, trivial⟩)
  · intro Q ρ I1 H hI1 hk hpost
    obtain ⟨_, -⟩ := hk
    have hc := Mem.le.refl I1
    refine ex rfl rfl rfl ?_
    refine WL.nil ?_
    exact hpost _ _ hc rfl _ (fun _ hd => by obtain rfl := Option.some.inj hd; exact ⟨rfl, trivial⟩)
  · intro Q ρ I1 H hI1 hk hpost
    obtain ⟨_, -⟩ := hk
    have hc := Mem.le.refl I1
    refine ex rfl rfl rfl ?_
    refine WL.nil ?_
    exact hpost _ _ hc rfl _ (fun _ hd => by obtain rfl := Option.some.inj hd; exact ⟨rfl, trivial⟩)
  · intro Q ρ I1 H hI1 hk hpost
    obtain ⟨_, -⟩ := hk
    have hc := Mem.le.refl I1
    refine ex rfl rfl rfl ?_
    refine WL.nil ?_
    exact hpost _ _ hc rfl _ (fun _ hd => by obtain rfl := Option.some.inj hd; exact ⟨rfl, trivial⟩)
  · intro Q ρ I1 H hI1 hk hpost
    obtain ⟨_, -⟩ := hk
    have hc := Mem.le.refl I1
    refine asg rfl rfl ?_
    refine WL.nil ?_
    exact hpost _ _ hc rfl _ (fun _ hd => by obtain rfl := Option.some.inj hd; exact ⟨rfl, trivial⟩)
  · intro Q ρ I1 H hI1 hk hpost
    obtain ⟨_, -⟩ := hk
    have hc := Mem.le.refl I1
    refine asg rfl rfl ?_
    refine WL.nil ?_
    exact hpost _ _ hc rfl _ (fun _ hd => by obtain rfl := Option.some.inj hd; exact ⟨rfl, trivial⟩)
  · intro Q ρ I1 H hI1 hk hpost
    obtain ⟨_, -⟩ := hk
    have hc := Mem.le.refl I1
    refine asg rfl rfl ?_
    refine WL.nil ?_
    exact hpost _ _ hc rfl _ (fun _ hd => by obtain rfl := Option.some.inj hd; exact ⟨rfl, trivial⟩)
  rintro ρ J17 hJ18 -
  refine WX.sub (r := [(0, (.pointer (some ⟨g0, 0, none⟩))), (3, (.int .i64 x10)), (4, (.int .i64 x11)), (5, (.bool x12))]) ?_ ⟨rfl, rfl, rfl, rfl, trivial⟩
  refine WX.is (H := bl g0 #[(.slice a2 p0.b_.length c3), (.int .i64 p0.at_), (.bool p0.bad_)] 94 :: G) rfl ?_
  have hI := hI.trans hJ18
  replace h4 := h4.up hJ18
  refine WX.then_ ?_
  refine WC.seq ?_
  refine WC.seq ?_
  obtain ⟨j23, hj23, h⟩ := bnd h
  refine WC.joinQ (σ := span_Reader × Bool) (fun (s21, x22) => [(0, (.pointer (some ⟨g0, 0, none⟩))), (3, (.int .i64 x10)), (4, (.int .i64 x11)), (27, (.bool x22))]) (fun (s21, x22) => Ob_span_Reader g0 s21 :: G) (fun (s21, x22) J => (s21, x22) = j23) (fun kj23 => ?_) ?_
  · skip
    have lj23 := Mem.le.refl J17
    refine WC.region ?_
    refine mv rfl rfl ?_
    refine nc rfl rfl ?_
    refine fa fl94_2 rfl rfl ?_
    refine ld 0 na4 rfl rfl rfl rfl ?_
    refine mv rfl rfl ?_
    rcases spl hj23 with ⟨k24, hj23⟩ | ⟨k24, hj23⟩
    · skip
      refine WL.rb 24 rfl (bt1 k24) ?_
      refine WL.no rfl rfl rfl rfl ?_
      refine WL.no rfl rfl rfl rfl ?_
      refine pkT rfl rfl rfl ?_
      refine WL.nil ?_
      refine WX.shut_span_Reader (⟨p0.b_, p0.at_, p0.bad_⟩ : span_Reader) h4 ?_
      exact (kj23 ⟨(⟨p0.b_, p0.at_, p0.bad_⟩ : span_Reader), true⟩ _ lj23 (Option.some.inj hj23)).sub ⟨rfl, rfl, rfl, rfl, trivial⟩
    refine WL.rb 24 rfl (bf1 k24) ?_
    refine WL.on rfl rfl ?_
    refine mv rfl rfl ?_
    refine WL.on rfl rfl ?_
    refine nt rfl rfl ?_
    refine pkF rfl rfl rfl ?_
    refine WL.nil ?_
    refine WX.shut_span_Reader (⟨p0.b_, p0.at_, p0.bad_⟩ : span_Reader) h4 ?_
    exact (kj23 ⟨(⟨p0.b_, p0.at_, p0.bad_⟩ : span_Reader), (!x12)⟩ _ lj23 (Option.some.inj hj23)).sub ⟨rfl, rfl, rfl, rfl, trivial⟩
  rintro ⟨s21, x22⟩ J25 hJ26 rfl
  have hI := hI.trans hJ26
  refine WX.then_ ?_
  refine WC.iteb rfl h (fun k27 h => ?_) (fun k27 h => ?_)
  · skip
    refine WC.seq ?_
    refine WC.region ?_
    refine mv rfl rfl ?_
    refine nc rfl rfl ?_
    refine fa fl94_2 rfl rfl ?_
    refine WL.open_span_Reader (fun a28 c29 h30 => ?_)
    refine st (C' := #[(.slice a28 s21.b_.length c29), (.int .i64 s21.at_), (.bool true)]) sz4 rfl rfl rfl rfl rfl ?_
    refine WL.next ?_
    refine WC.seq ?_
    refine WC.region ?_
    refine asg rfl rfl ?_
    refine WL.next ?_
    refine WC.ret ?_
    refine WX.then_ret ?_
    refine WX.shut_span_Reader (⟨s21.b_, s21.at_, true⟩ : span_Reader) h30 ?_
    cases h
    exact ret1 Try.results74 rfl hI ⟨rfl, rfl⟩
  refine WC.skip ?_
  refine WX.then_ ?_
  refine WC.seq ?_
  refine WC.region ?_
  refine mv rfl rfl ?_
  refine mv rfl rfl ?_
  refine nc rfl rfl ?_
  refine fa fl94_1 rfl rfl ?_
  refine WL.open_span_Reader (fun a31 c32 h33 => ?_)
  refine ld 0 na3 rfl rfl rfl rfl ?_
  refine mv rfl rfl ?_
  refine ad rfl rfl rfl ?_
  refine nc rfl rfl ?_
  refine fa fl94_1 rfl rfl ?_
  refine st (C' := #[(.slice a31 s21.b_.length c32), (.int .i64 (w64 (s21.at_ + x11))), (.bool s21.bad_)]) sz3 rfl rfl rfl rfl rfl ?_
  refine WL.next ?_
  refine WC.seq ?_
  refine WC.region ?_
  refine mv rfl rfl ?_
  refine asg rfl rfl ?_
  refine WL.next ?_
  refine WC.ret ?_
  refine WX.shut_span_Reader (⟨s21.b_, w64 (s21.at_ + x11), s21.bad_⟩ : span_Reader) h33 ?_
  cases h
  exact ret1 Try.results74 rfl hI ⟨rfl, rfl⟩
theorem W47 {I : Mem} {G : List Asn} {p0 : span_Reader} {r : api_Packet × Bool × span_Reader} (h : packet_Take p0 = some r) {g0 : Nat} :
    CallsS Try.prog 47 #[.pointer (some ⟨g0, 0, none⟩)] I (Ob_span_Reader g0 p0 :: G) (fun v J G' => ∃ ra0_5 rc0_5, v = .tuple #[.agg #[.int .i64 r.1.Kind, .int .i64 r.1.Path, .int .i64 r.1.Number, .int .i64 r.1.Of, .int .i64 r.1.From, .slice ra0_5 r.1.Data.length rc0_5, .bool r.1.Fin, .int .i64 r.1.Seen, .int .i64 r.1.Limit], .bool r.2.1] ∧ IV J (.slice ra0_5 r.1.Data.length rc0_5) r.1.Data ∧ Ob_span_Reader g0 (r.2.2) :: G = G') := by
  refine CallsS.enter Try.func47 rfl Try.ntmps47 rfl (fun w0 => ?_)
  have hI := Mem.le.refl I
  unfold packet_Take at h
  refine WC.seq ?_
  refine WC.region ?_
  refine al Try.zeroValue41 rfl (fun g2 => ?_)
  refine asg rfl rfl ?_
  refine WL.next ?_
  refine WC.seq ?_
  refine WC.region ?_
  refine mv rfl rfl ?_
  refine WL.front 1 ?_
  obtain ⟨⟨x4, s5⟩, e6, h⟩ := bnd h
  refine call cl73 rfl rfl (W73 e6) (fun _ J7 _ hJ8 q9 => ?_)
  have hI := hI.trans hJ8
  obtain ⟨rfl, rfl⟩ := q9
  refine cv8i Try.underlying5 Try.underlying3 rfl rfl ?_
  refine mv rfl rfl ?_
  obtain ⟨⟨x10, s11⟩, e12, h⟩ := bnd h
  refine call cl74 rfl rfl (W74 e12) (fun _ J13 _ hJ14 q15 => ?_)
  have hI := hI.trans hJ14
  obtain ⟨rfl, rfl⟩ := q15
  refine mv rfl rfl ?_
  obtain ⟨⟨x16, s17⟩, e18, h⟩ := bnd h
  refine call cl74 rfl rfl (W74 e18) (fun _ J19 _ hJ20 q21 => ?_)
  have hI := hI.trans hJ20
  obtain ⟨rfl, rfl⟩ := q21
  refine bu bt41 rfl rfl rfl ?_
  refine al Try.zeroValue41 rfl (fun g22 => ?_)
  refine sta (C' := #[(.int .i64 (x4.toNat : Int)), (.int .i64 x10), (.int .i64 x16), (.int .i64 0), (.int .i64 0), (.slice none 0 0), (.bool false), (.int .i64 0), (.int .i64 0)]) sz41 rfl rfl rfl rfl rfl rfl ?_
  refine WL.next ?_
  refine WC.seq ?_
  refine WC.seq ?_
  refine WC.region ?_
  refine fa fl41_0 rfl rfl ?_
  refine ld 0 na3 rfl rfl rfl rfl ?_
  refine WL.next ?_
  refine WC.block ?_
  refine WC.seq ?_
  refine WC.region ?_
  refine eq rfl rfl rfl ?_
  refine asg rfl rfl ?_
  refine WL.next ?_
  refine WC.ite rfl h (fun k24 h => ?_) (fun k24 h => ?_)
  · skip
    refine WC.region ?_
    refine mv rfl rfl ?_
    refine WL.front 1 ?_
    obtain ⟨⟨x25, s26⟩, e27, h⟩ := bnd h
    refine call cl74 rfl rfl (W74 e27) (fun _ J28 _ hJ29 q30 => ?_)
    have hI := hI.trans hJ29
    obtain ⟨rfl, rfl⟩ := q30
    refine fa fl41_3 rfl rfl ?_
    refine WL.front 1 ?_
    refine st (C' := #[(.int .i64 (x4.toNat : Int)), (.int .i64 x10), (.int .i64 x16), (.int .i64 x25), (.int .i64 0), (.slice none 0 0), (.bool false), (.int .i64 0), (.int .i64 0)]) sz3 rfl rfl rfl rfl rfl ?_
    refine WL.nil ?_
    refine WX.block_normal ?_
    refine WX.then_ ?_
    refine WC.seq ?_
    refine WC.seq ?_
    refine WC.region ?_
    refine mv rfl rfl ?_
    refine WL.front 1 ?_
    obtain ⟨⟨x31, s32⟩, e33, h⟩ := bnd h
    refine call cl49 rfl rfl (W49 e33) (fun _ J34 _ hJ35 q36 => ?_)
    have hI := hI.trans hJ35
    obtain ⟨rfl, rfl⟩ := q36
    refine mv rfl rfl ?_
    rcases spl h with ⟨k37, h⟩ | ⟨k37, h⟩
    · skip
      refine WL.rb 50 rfl (bt1 k37) ?_
      refine WL.no rfl rfl rfl rfl ?_
      refine WL.no rfl rfl rfl rfl ?_
      refine WL.no rfl rfl rfl rfl ?_
      refine pkT rfl rfl rfl ?_
      refine WL.next ?_
      refine WC.cond rfl (fun _ => ?_) (fun k => by cases k)
      refine WC.seq ?_
      refine WC.region ?_
      refine bu bt41 rfl rfl rfl ?_
      refine WL.front 2 ?_
      refine sta (C' := #[(.int .i64 0), (.int .i64 0), (.int .i64 0), (.int .i64 0), (.int .i64 0), (.slice none 0 0), (.bool false), (.int .i64 0), (.int .i64 0)]) sz41 rfl rfl rfl rfl rfl rfl ?_
      refine asg rfl rfl ?_
      refine WL.del 2 ?_
      refine WL.next ?_
      refine WC.ret ?_
      refine WX.then_ret ?_
      refine WX.front 1 ?_
      cases h
      exact retC2x Try.results47 (fun a w ha hw => ⟨RC.cellA ha hw 1 rfl ya41 rfl rfl, RC.tmp ha rfl⟩) (fun w hw => hw |>.del 1) hI ⟨_, _, rfl, (IV.nil _ : IV _ _ ([] : List UInt8)), rfl⟩
    refine WL.rb 50 rfl (bf1 k37) ?_
    refine WL.on rfl rfl ?_
    refine lda 1 ya41 rfl rfl rfl rfl rfl ?_
    refine WL.on rfl rfl ?_
    obtain ⟨x38, e39, h⟩ := bnd h
    refine call cl32 rfl rfl (W32 e39 (IV.nil _ : IV _ _ ([] : List UInt8))) (fun _ J40 _ hJ41 q42 => ?_)
    have hI := hI.trans hJ41
    obtain ⟨rfl, rfl⟩ := q42
    refine WL.on rfl rfl ?_
    refine ne rfl rfl rfl ?_
    refine pkF rfl rfl rfl ?_
    refine WL.next ?_
    refine WC.ite rfl h (fun k43 h => ?_) (fun k43 h => ?_)
    · skip
      refine WC.seq ?_
      refine WC.region ?_
      refine bu bt41 rfl rfl rfl ?_
      refine WL.front 2 ?_
      refine sta (C' := #[(.int .i64 0), (.int .i64 0), (.int .i64 0), (.int .i64 0), (.int .i64 0), (.slice none 0 0), (.bool false), (.int .i64 0), (.int .i64 0)]) sz41 rfl rfl rfl rfl rfl rfl ?_
      refine asg rfl rfl ?_
      refine WL.del 2 ?_
      refine WL.next ?_
      refine WC.ret ?_
      refine WX.then_ret ?_
      refine WX.front 1 ?_
      cases h
      exact retC2x Try.results47 (fun a w ha hw => ⟨RC.cellA ha hw 1 rfl ya41 rfl rfl, RC.tmp ha rfl⟩) (fun w hw => hw |>.del 1) hI ⟨_, _, rfl, (IV.nil _ : IV _ _ ([] : List UInt8)), rfl⟩
    refine WC.skip ?_
    refine WX.then_ ?_
    refine WC.seq ?_
    refine WC.region ?_
    refine lda 1 ya41 rfl rfl rfl rfl rfl ?_
    refine WL.front 2 ?_
    refine sta (C' := #[(.int .i64 (x4.toNat : Int)), (.int .i64 x10), (.int .i64 x16), (.int .i64 x25), (.int .i64 0), (.slice none 0 0), (.bool false), (.int .i64 0), (.int .i64 0)]) sz41 rfl rfl rfl rfl rfl rfl ?_
    refine asg rfl rfl ?_
    refine WL.del 2 ?_
    refine WL.next ?_
    refine WC.ret ?_
    refine WX.front 1 ?_
    cases h
    exact retC2x Try.results47 (fun a w ha hw => ⟨RC.cellA ha hw 1 rfl ya41 rfl rfl, RC.tmp ha rfl⟩) (fun w hw => hw |>.del 1) hI ⟨_, _, rfl, (IV.nil _ : IV _ _ ([] : List UInt8)), rfl⟩
  refine WC.seq ?_
  refine WC.region ?_
  refine eq rfl rfl rfl ?_
  refine asg rfl rfl ?_
  refine WL.next ?_
  refine WC.ite rfl h (fun k44 h => ?_) (fun k44 h => ?_)
  · skip
    refine WC.seq ?_
    refine WC.region ?_
    refine mv rfl rfl ?_
    refine WL.front 1 ?_
    obtain ⟨⟨x45, s46⟩, e47, h⟩ := bnd h
    refine call cl74 rfl rfl (W74 e47) (fun _ J48 _ hJ49 q50 => ?_)
    have hI := hI.trans hJ49
    obtain ⟨rfl, rfl⟩ := q50
    refine mv rfl rfl ?_
    obtain ⟨⟨x51, s52⟩, e53, h⟩ := bnd h
    refine call cl75 rfl rfl (W75 e53) (fun _ J54 _ hJ55 q56 => ?_)
    have hI := hI.trans hJ55
    obtain ⟨a57, c58, rfl, rfl⟩ := q56
    refine fa fl41_4 rfl rfl ?_
    refine WL.front 2 ?_
    refine st (C' := #[(.int .i64 (x4.toNat : Int)), (.int .i64 x10), (.int .i64 x16), (.int .i64 0), (.int .i64 x45), (.slice none 0 0), (.bool false), (.int .i64 0), (.int .i64 0)]) sz3 rfl rfl rfl rfl rfl ?_
    refine fa fl41_5 rfl rfl ?_
    refine st (C' := #[(.int .i64 (x4.toNat : Int)), (.int .i64 x10), (.int .i64 x16), (.int .i64 0), (.int .i64 x45), (.slice a57 x51.length c58), (.bool false), (.int .i64 0), (.int .i64 0)]) sz22 rfl rfl rfl rfl rfl ?_
    refine WL.next ?_
    refine WC.seq ?_
    refine WC.region ?_
    refine mv rfl rfl ?_
    refine WL.front 2 ?_
    obtain ⟨⟨x60, s61⟩, e62, h⟩ := bnd h
    refine call cl73 rfl rfl (W73 e62) (fun _ J63 _ hJ64 q65 => ?_)
    have hI := hI.trans hJ64
    obtain ⟨rfl, rfl⟩ := q65
    refine asg rfl rfl ?_
    refine WL.next ?_
    refine WC.seq ?_
    refine WC.seq ?_
    refine WC.region ?_
    refine mv rfl rfl ?_
    refine gt rfl rfl rfl ?_
    refine WL.next ?_
    refine WC.ite rfl h (fun k66 h => ?_) (fun k66 h => ?_)
    · skip
      refine WC.seq ?_
      refine WC.region ?_
      refine bu bt41 rfl rfl rfl ?_
      refine WL.front 3 ?_
      refine sta (C' := #[(.int .i64 0), (.int .i64 0), (.int .i64 0), (.int .i64 0), (.int .i64 0), (.slice none 0 0), (.bool false), (.int .i64 0), (.int .i64 0)]) sz41 rfl rfl rfl rfl rfl rfl ?_
      refine asg rfl rfl ?_
      refine WL.del 2 ?_
      refine WL.next ?_
      refine WC.ret ?_
      refine WX.then_ret ?_
      refine WX.block_ret ?_
      refine WX.then_ret ?_
      refine WX.front 1 ?_
      cases h
      exact retC2x Try.results47 (fun a w ha hw => ⟨RC.cellA ha hw 1 rfl ya41 rfl rfl, RC.tmp ha rfl⟩) (fun w hw => hw |>.del 1 |>.del 1) hI ⟨_, _, rfl, (IV.nil _ : IV _ _ ([] : List UInt8)), rfl⟩
    refine WC.skip ?_
    refine WX.then_ ?_
    refine WC.region ?_
    refine mv rfl rfl ?_
    refine eq rfl rfl rfl ?_
    refine fa fl41_6 rfl rfl ?_
    refine WL.front 1 ?_
    refine st (C' := #[(.int .i64 (x4.toNat : Int)), (.int .i64 x10), (.int .i64 x16), (.int .i64 0), (.int .i64 x45), (.slice a57 x51.length c58), (.bool (decide ((x60.toNat : Int) = 1))), (.int .i64 0), (.int .i64 0)]) sz4 rfl rfl rfl rfl rfl ?_
    refine WL.nil ?_
    refine WX.block_normal ?_
    refine WX.then_ ?_
    refine WC.seq ?_
    refine WC.seq ?_
    refine WC.region ?_
    refine mv rfl rfl ?_
    refine WL.front 1 ?_
    obtain ⟨⟨x67, s68⟩, e69, h⟩ := bnd h
    refine call cl49 rfl rfl (W49 e69) (fun _ J70 _ hJ71 q72 => ?_)
    have hI := hI.trans hJ71
    obtain ⟨rfl, rfl⟩ := q72
    refine mv rfl rfl ?_
    rcases spl h with ⟨k73, h⟩ | ⟨k73, h⟩
    · skip
      refine WL.rb 50 rfl (bt1 k73) ?_
      refine WL.no rfl rfl rfl rfl ?_
      refine WL.no rfl rfl rfl rfl ?_
      refine WL.no rfl rfl rfl rfl ?_
      refine pkT rfl rfl rfl ?_
      refine WL.next ?_
      refine WC.cond rfl (fun _ => ?_) (fun k => by cases k)
      refine WC.seq ?_
      refine WC.region ?_
      refine bu bt41 rfl rfl rfl ?_
      refine WL.front 3 ?_
      refine sta (C' := #[(.int .i64 0), (.int .i64 0), (.int .i64 0), (.int .i64 0), (.int .i64 0), (.slice none 0 0), (.bool false), (.int .i64 0), (.int .i64 0)]) sz41 rfl rfl rfl rfl rfl rfl ?_
      refine asg rfl rfl ?_
      refine WL.del 2 ?_
      refine WL.next ?_
      refine WC.ret ?_
      refine WX.then_ret ?_
      refine WX.front 1 ?_
      cases h
      exact retC2x Try.results47 (fun a w ha hw => ⟨RC.cellA ha hw 1 rfl ya41 rfl rfl, RC.tmp ha rfl⟩) (fun w hw => hw |>.del 1 |>.del 1) hI ⟨_, _, rfl, (IV.nil _ : IV _ _ ([] : List UInt8)), rfl⟩
    refine WL.rb 50 rfl (bf1 k73) ?_
    refine WL.on rfl rfl ?_
    refine lda 1 ya41 rfl rfl rfl rfl rfl ?_
    refine WL.on rfl rfl ?_
    refine WL.front 2 ?_
    refine WL.freeze (fun J74 hJ75 h76 => ?_)
    have hI := hI.trans hJ75
    obtain ⟨x77, e78, h⟩ := bnd h
    refine call cl32 rfl rfl (W32 e78 h76) (fun _ J79 _ hJ80 q81 => ?_)
    have hI := hI.trans hJ80
    replace h76 := h76.up hJ80
    obtain ⟨rfl, rfl⟩ := q81
    refine WL.on rfl rfl ?_
    refine ne rfl rfl rfl ?_
    refine pkF rfl rfl rfl ?_
    refine WL.next ?_
    refine WC.ite rfl h (fun k82 h => ?_) (fun k82 h => ?_)
    · skip
      refine WC.seq ?_
      refine WC.region ?_
      refine bu bt41 rfl rfl rfl ?_
      refine WL.front 2 ?_
      refine sta (C' := #[(.int .i64 0), (.int .i64 0), (.int .i64 0), (.int .i64 0), (.int .i64 0), (.slice none 0 0), (.bool false), (.int .i64 0), (.int .i64 0)]) sz41 rfl rfl rfl rfl rfl rfl ?_
      refine asg rfl rfl ?_
      refine WL.del 2 ?_
      refine WL.next ?_
      refine WC.ret ?_
      refine WX.then_ret ?_
      refine WX.front 1 ?_
      cases h
      exact retC2x Try.results47 (fun a w ha hw => ⟨RC.cellA ha hw 1 rfl ya41 rfl rfl, RC.tmp ha rfl⟩) (fun w hw => hw |>.del 1) hI ⟨_, _, rfl, (IV.nil _ : IV _ _ ([] : List UInt8)), rfl⟩
    refine WC.skip ?_
    refine WX.then_ ?_
    refine WC.seq ?_
    refine WC.region ?_
    refine lda 1 ya41 rfl rfl rfl rfl rfl ?_
    refine WL.front 2 ?_
    refine sta (C' := #[(.int .i64 (x4.toNat : Int)), (.int .i64 x10), (.int .i64 x16), (.int .i64 0), (.int .i64 x45), (.slice a57 x51.length c58), (.bool (decide ((x60.toNat : Int) = 1))), (.int .i64 0), (.int .i64 0)]) sz41 rfl rfl rfl rfl rfl rfl ?_
    refine asg rfl rfl ?_
    refine WL.del 2 ?_
    refine WL.next ?_
    refine WC.ret ?_
    refine WX.front 1 ?_
    cases h
    exact retC2x Try.results47 (fun a w ha hw => ⟨RC.cellA ha hw 1 rfl ya41 rfl rfl, RC.tmp ha rfl⟩) (fun w hw => hw |>.del 1) hI ⟨_, _, rfl, h76, rfl⟩
  refine WC.seq ?_
  refine WC.region ?_
  refine eq rfl rfl rfl ?_
  refine asg rfl rfl ?_
  refine WL.next ?_
  refine WC.ite rfl h (fun k83 h => ?_) (fun k83 h => ?_)
  · skip
    refine WC.region ?_
    refine mv rfl rfl ?_
    refine WL.front 1 ?_
    obtain ⟨⟨x84, s85⟩, e86, h⟩ := bnd h
    refine call cl74 rfl rfl (W74 e86) (fun _ J87 _ hJ88 q89 => ?_)
    have hI := hI.trans hJ88
    obtain ⟨rfl, rfl⟩ := q89
    refine mv rfl rfl ?_
    obtain ⟨⟨x90, s91⟩, e92, h⟩ := bnd h
    refine call cl74 rfl rfl (W74 e92) (fun _ J93 _ hJ94 q95 => ?_)
    have hI := hI.trans hJ94
    obtain ⟨rfl, rfl⟩ := q95
    refine mv rfl rfl ?_
    obtain ⟨⟨x96, s97⟩, e98, h⟩ := bnd h
    refine call cl74 rfl rfl (W74 e98) (fun _ J99 _ hJ100 q101 => ?_)
    have hI := hI.trans hJ100
    obtain ⟨rfl, rfl⟩ := q101
    refine fa fl41_3 rfl rfl ?_
    refine WL.front 1 ?_
    refine st (C' := #[(.int .i64 (x4.toNat : Int)), (.int .i64 x10), (.int .i64 x16), (.int .i64 x84), (.int .i64 0), (.slice none 0 0), (.bool false), (.int .i64 0), (.int .i64 0)]) sz3 rfl rfl rfl rfl rfl ?_
    refine fa fl41_7 rfl rfl ?_
    refine st (C' := #[(.int .i64 (x4.toNat : Int)), (.int .i64 x10), (.int .i64 x16), (.int .i64 x84), (.int .i64 0), (.slice none 0 0), (.bool false), (.int .i64 x90), (.int .i64 0)]) sz3 rfl rfl rfl rfl rfl ?_
    refine fa fl41_8 rfl rfl ?_
    refine st (C' := #[(.int .i64 (x4.toNat : Int)), (.int .i64 x10), (.int .i64 x16), (.int .i64 x84), (.int .i64 0), (.slice none 0 0), (.bool false), (.int .i64 x90), (.int .i64 x96)]) sz3 rfl rfl rfl rfl rfl ?_
    refine WL.nil ?_
    refine WX.block_normal ?_
    refine WX.then_ ?_
    refine WC.seq ?_
    refine WC.seq ?_
    refine WC.region ?_
    refine mv rfl rfl ?_
    refine WL.front 1 ?_
    obtain ⟨⟨x102, s103⟩, e104, h⟩ := bnd h
    refine call cl49 rfl rfl (W49 e104) (fun _ J105 _ hJ106 q107 => ?_)
    have hI := hI.trans hJ106
    obtain ⟨rfl, rfl⟩ := q107
    refine mv rfl rfl ?_
    rcases spl h with ⟨k108, h⟩ | ⟨k108, h⟩
    · skip
      refine WL.rb 50 rfl (bt1 k108) ?_
      refine WL.no rfl rfl rfl rfl ?_
      refine WL.no rfl rfl rfl rfl ?_
      refine WL.no rfl rfl rfl rfl ?_
      refine pkT rfl rfl rfl ?_
      refine WL.next ?_
      refine WC.cond rfl (fun _ => ?_) (fun k => by cases k)
      refine WC.seq ?_
      refine WC.region ?_
      refine bu bt41 rfl rfl rfl ?_
      refine WL.front 2 ?_
      refine sta (C' := #[(.int .i64 0), (.int .i64 0), (.int .i64 0), (.int .i64 0), (.int .i64 0), (.slice none 0 0), (.bool false), (.int .i64 0), (.int .i64 0)]) sz41 rfl rfl rfl rfl rfl rfl ?_
      refine asg rfl rfl ?_
      refine WL.del 2 ?_
      refine WL.next ?_
      refine WC.ret ?_
      refine WX.then_ret ?_
      refine WX.front 1 ?_
      cases h
      exact retC2x Try.results47 (fun a w ha hw => ⟨RC.cellA ha hw 1 rfl ya41 rfl rfl, RC.tmp ha rfl⟩) (fun w hw => hw |>.del 1) hI ⟨_, _, rfl, (IV.nil _ : IV _ _ ([] : List UInt8)), rfl⟩
    refine WL.rb 50 rfl (bf1 k108) ?_
    refine WL.on rfl rfl ?_
    refine lda 1 ya41 rfl rfl rfl rfl rfl ?_
    refine WL.on rfl rfl ?_
    obtain ⟨x109, e110, h⟩ := bnd h
    refine call cl32 rfl rfl (W32 e110 (IV.nil _ : IV _ _ ([] : List UInt8))) (fun _ J111 _ hJ112 q113 => ?_)
    have hI := hI.trans hJ112
    obtain ⟨rfl, rfl⟩ := q113
    refine WL.on rfl rfl ?_
    refine ne rfl rfl rfl ?_
    refine pkF rfl rfl rfl ?_
    refine WL.next ?_
    refine WC.ite rfl h (fun k114 h => ?_) (fun k114 h => ?_)
    · skip
      refine WC.seq ?_
      refine WC.region ?_
      refine bu bt41 rfl rfl rfl ?_
      refine WL.front 2 ?_
      refine sta (C' := #[(.int .i64 0), (.int .i64 0), (.int .i64 0), (.int .i64 0), (.int .i64 0), (.slice none 0 0), (.bool false), (.int .i64 0), (.int .i64 0)]) sz41 rfl rfl rfl rfl rfl rfl ?_
      refine asg rfl rfl ?_
      refine WL.del 2 ?_
      refine WL.next ?_
      refine WC.ret ?_
      refine WX.then_ret ?_
      refine WX.front 1 ?_
      cases h
      exact retC2x Try.results47 (fun a w ha hw => ⟨RC.cellA ha hw 1 rfl ya41 rfl rfl, RC.tmp ha rfl⟩) (fun w hw => hw |>.del 1) hI ⟨_, _, rfl, (IV.nil _ : IV _ _ ([] : List UInt8)), rfl⟩
    refine WC.skip ?_
    refine WX.then_ ?_
    refine WC.seq ?_
    refine WC.region ?_
    refine lda 1 ya41 rfl rfl rfl rfl rfl ?_
    refine WL.front 2 ?_
    refine sta (C' := #[(.int .i64 (x4.toNat : Int)), (.int .i64 x10), (.int .i64 x16), (.int .i64 x84), (.int .i64 0), (.slice none 0 0), (.bool false), (.int .i64 x90), (.int .i64 x96)]) sz41 rfl rfl rfl rfl rfl rfl ?_
    refine asg rfl rfl ?_
    refine WL.del 2 ?_
    refine WL.next ?_
    refine WC.ret ?_
    refine WX.front 1 ?_
    cases h
    exact retC2x Try.results47 (fun a w ha hw => ⟨RC.cellA ha hw 1 rfl ya41 rfl rfl, RC.tmp ha rfl⟩) (fun w hw => hw |>.del 1) hI ⟨_, _, rfl, (IV.nil _ : IV _ _ ([] : List UInt8)), rfl⟩
  refine WC.skip ?_
  refine WX.block_normal ?_
  refine WX.then_ ?_
  refine WC.seq ?_
  refine WC.seq ?_
  refine WC.region ?_
  refine mv rfl rfl ?_
  refine WL.front 1 ?_
  obtain ⟨⟨x115, s116⟩, e117, h⟩ := bnd h
  refine call cl49 rfl rfl (W49 e117) (fun _ J118 _ hJ119 q120 => ?_)
  have hI := hI.trans hJ119
  obtain ⟨rfl, rfl⟩ := q120
  refine mv rfl rfl ?_
  rcases spl h with ⟨k121, h⟩ | ⟨k121, h⟩
  · skip
    refine WL.rb 50 rfl (bt1 k121) ?_
    refine WL.no rfl rfl rfl rfl ?_
    refine WL.no rfl rfl rfl rfl ?_
    refine WL.no rfl rfl rfl rfl ?_
    refine pkT rfl rfl rfl ?_
    refine WL.next ?_
    refine WC.cond rfl (fun _ => ?_) (fun k => by cases k)
    refine WC.seq ?_
    refine WC.region ?_
    refine bu bt41 rfl rfl rfl ?_
    refine WL.front 2 ?_
    refine sta (C' := #[(.int .i64 0), (.int .i64 0), (.int .i64 0), (.int .i64 0), (.int .i64 0), (.slice none 0 0), (.bool false), (.int .i64 0), (.int .i64 0)]) sz41 rfl rfl rfl rfl rfl rfl ?_
    refine asg rfl rfl ?_
    refine WL.del 2 ?_
    refine WL.next ?_
    refine WC.ret ?_
    refine WX.then_ret ?_
    refine WX.front 1 ?_
    cases h
    exact retC2x Try.results47 (fun a w ha hw => ⟨RC.cellA ha hw 1 rfl ya41 rfl rfl, RC.tmp ha rfl⟩) (fun w hw => hw |>.del 1) hI ⟨_, _, rfl, (IV.nil _ : IV _ _ ([] : List UInt8)), rfl⟩
  refine WL.rb 50 rfl (bf1 k121) ?_
  refine WL.on rfl rfl ?_
  refine lda 1 ya41 rfl rfl rfl rfl rfl ?_
  refine WL.on rfl rfl ?_
  obtain ⟨x122, e123, h⟩ := bnd h
  refine call cl32 rfl rfl (W32 e123 (IV.nil _ : IV _ _ ([] : List UInt8))) (fun _ J124 _ hJ125 q126 => ?_)
  have hI := hI.trans hJ125
  obtain ⟨rfl, rfl⟩ := q126
  refine WL.on rfl rfl ?_
  refine ne rfl rfl rfl ?_
  refine pkF rfl rfl rfl ?_
  refine WL.next ?_
  refine WC.ite rfl h (fun k127 h => ?_) (fun k127 h => ?_)
  · skip
    refine WC.seq ?_
    refine WC.region ?_
    refine bu bt41 rfl rfl rfl ?_
    refine WL.front 2 ?_
    refine sta (C' := #[(.int .i64 0), (.int .i64 0), (.int .i64 0), (.int .i64 0), (.int .i64 0), (.slice none 0 0), (.bool false), (.int .i64 0), (.int .i64 0)]) sz41 rfl rfl rfl rfl rfl rfl ?_
    refine asg rfl rfl ?_
    refine WL.del 2 ?_
    refine WL.next ?_
    refine WC.ret ?_
    refine WX.then_ret ?_
    refine WX.front 1 ?_
    cases h
    exact retC2x Try.results47 (fun a w ha hw => ⟨RC.cellA ha hw 1 rfl ya41 rfl rfl, RC.tmp ha rfl⟩) (fun w hw => hw |>.del 1) hI ⟨_, _, rfl, (IV.nil _ : IV _ _ ([] : List UInt8)), rfl⟩
  refine WC.skip ?_
  refine WX.then_ ?_
  refine WC.seq ?_
  refine WC.region ?_
  refine lda 1 ya41 rfl rfl rfl rfl rfl ?_
  refine WL.front 2 ?_
  refine sta (C' := #[(.int .i64 (x4.toNat : Int)), (.int .i64 x10), (.int .i64 x16), (.int .i64 0), (.int .i64 0), (.slice none 0 0), (.bool false), (.int .i64 0), (.int .i64 0)]) sz41 rfl rfl rfl rfl rfl rfl ?_
  refine asg rfl rfl ?_
  refine WL.del 2 ?_
  refine WL.next ?_
  refine WC.ret ?_
  refine WX.front 1 ?_
  cases h
  exact retC2x Try.results47 (fun a w ha hw => ⟨RC.cellA ha hw 1 rfl ya41 rfl rfl, RC.tmp ha rfl⟩) (fun w hw => hw |>.del 1) hI ⟨_, _, rfl, (IV.nil _ : IV _ _ ([] : List UInt8)), rfl⟩
theorem W50 {I : Mem} {G : List Asn} {p0 : List UInt8} {r : api_Packet × Int} (h : packet_Unpack p0 = some r) {u0 : Value} (hp0 : IV I u0 p0) :
    CallsS Try.prog 50 #[u0] I (G) (fun v J G' => ∃ ra0_5 rc0_5, v = .tuple #[.agg #[.int .i64 r.1.Kind, .int .i64 r.1.Path, .int .i64 r.1.Number, .int .i64 r.1.Of, .int .i64 r.1.From, .slice ra0_5 r.1.Data.length rc0_5, .bool r.1.Fin, .int .i64 r.1.Seen, .int .i64 r.1.Limit], .int .i64 r.2] ∧ IV J (.slice ra0_5 r.1.Data.length rc0_5) r.1.Data ∧ G = G') := by
  refine CallsS.enter Try.func50 rfl Try.ntmps50 rfl (fun w0 => ?_)
  have hI := Mem.le.refl I
  obtain ⟨a0, c0, rfl⟩ := hp0.hd
  unfold packet_Unpack at h
  refine WC.seq ?_
  refine WC.region ?_
  refine al Try.zeroValue41 rfl (fun g1 => ?_)
  refine asg rfl rfl ?_
  refine WL.next ?_
  refine WC.seq ?_
  refine WC.region ?_
  refine mv rfl rfl ?_
  obtain ⟨⟨x3, x4⟩, e5, h⟩ := bnd h
  refine call cl18 rfl rfl (W18 e5 hp0) (fun _ J6 _ hJ7 q8 => ?_)
  have hI := hI.trans hJ7
  replace hp0 := hp0.up hJ7
  obtain ⟨a9, c10, rfl, rfl⟩ := q8
  refine mv rfl rfl ?_
  refine ex rfl rfl rfl ?_
  refine ex rfl rfl rfl ?_
  refine asg rfl rfl ?_
  refine asg rfl rfl ?_
  refine WL.next ?_
  refine WC.seq ?_
  refine WC.seq ?_
  refine WC.region ?_
  refine mv rfl rfl ?_
  refine nt rfl rfl ?_
  refine WL.next ?_
  refine WC.itebn rfl h (fun k12 h => ?_) (fun k12 h => ?_)
  · skip
    refine WC.skip ?_
    refine WX.then_ ?_
    refine WC.seq ?_
    refine WC.region ?_
    refine mv rfl rfl ?_
    refine WL.freeze (fun J13 hJ14 h15 => ?_)
    have hI := hI.trans hJ14
    obtain ⟨s16, e17, h⟩ := bnd h
    refine call cl46 rfl rfl (W46 e17 h15) (fun _ J18 _ hJ19 q20 => ?_)
    have hI := hI.trans hJ19
    replace h15 := h15.up hJ19
    obtain ⟨g21, rfl, rfl⟩ := q20
    refine asg rfl rfl ?_
    refine WL.next ?_
    refine WC.seq ?_
    refine WC.region ?_
    refine mv rfl rfl ?_
    obtain ⟨⟨x23, x24, s25⟩, e26, h⟩ := bnd h
    refine call cl47 rfl rfl (W47 e26) (fun _ J27 _ hJ28 q29 => ?_)
    have hI := hI.trans hJ28
    obtain ⟨a30, c31, rfl, h32, rfl⟩ := q29
    refine mv rfl rfl ?_
    refine ex rfl rfl rfl ?_
    refine ex rfl rfl rfl ?_
    refine al Try.zeroValue41 rfl (fun g33 => ?_)
    refine sta (C' := #[(.int .i64 x23.Kind), (.int .i64 x23.Path), (.int .i64 x23.Number), (.int .i64 x23.Of), (.int .i64 x23.From), (.slice a30 x23.Data.length c31), (.bool x23.Fin), (.int .i64 x23.Seen), (.int .i64 x23.Limit)]) sz41 rfl rfl rfl rfl rfl rfl ?_
    refine asg rfl rfl ?_
    refine WL.next ?_
    refine WC.seq ?_
    refine WC.seq ?_
    refine WC.region ?_
    refine mv rfl rfl ?_
    refine nt rfl rfl ?_
    refine mv rfl rfl ?_
    rcases spl h with ⟨k35, h⟩ | ⟨k35, h⟩
    · skip
      refine WL.rb 25 rfl (bt1n k35) ?_
      refine WL.on rfl rfl ?_
      refine mv rfl rfl ?_
      refine WL.on rfl rfl ?_
      refine WL.front 1 ?_
      obtain ⟨⟨x36, s37⟩, e38, h⟩ := bnd h
      refine call cl48 rfl rfl (W48 e38) (fun _ J39 _ hJ40 q41 => ?_)
      have hI := hI.trans hJ40
      replace h32 := h32.up hJ40
      obtain ⟨rfl, rfl⟩ := q41
      refine WL.on rfl rfl ?_
      refine gt rfl rfl rfl ?_
      refine pkF rfl rfl rfl ?_
      refine WL.del 0 ?_
      refine WL.next ?_
      refine WC.ite rfl h (fun k42 h => ?_) (fun k42 h => ?_)
      · skip
        refine WC.seq ?_
        refine WC.region ?_
        refine bu bt41 rfl rfl rfl ?_
        refine WL.front 1 ?_
        refine sta (C' := #[(.int .i64 0), (.int .i64 0), (.int .i64 0), (.int .i64 0), (.int .i64 0), (.slice none 0 0), (.bool false), (.int .i64 0), (.int .i64 0)]) sz41 rfl rfl rfl rfl rfl rfl ?_
        refine asg rfl rfl ?_
        refine WL.del 1 ?_
        refine WL.next ?_
        refine WC.ret ?_
        refine WX.then_ret ?_
        cases h
        exact retC2x Try.results50 (fun a w ha hw => ⟨RC.cellA ha hw 0 rfl ya41 rfl rfl, RC.tmp ha rfl⟩) (fun w hw => hw |>.del 0) hI ⟨_, _, rfl, (IV.nil _ : IV _ _ ([] : List UInt8)), rfl⟩
      refine WC.skip ?_
      refine WX.then_ ?_
      refine WC.seq ?_
      refine WC.region ?_
      refine lda 0 ya41 rfl rfl rfl rfl rfl ?_
      refine WL.front 1 ?_
      refine sta (C' := #[(.int .i64 x23.Kind), (.int .i64 x23.Path), (.int .i64 x23.Number), (.int .i64 x23.Of), (.int .i64 x23.From), (.slice a30 x23.Data.length c31), (.bool x23.Fin), (.int .i64 x23.Seen), (.int .i64 x23.Limit)]) sz41 rfl rfl rfl rfl rfl rfl ?_
      refine asg rfl rfl ?_
      refine WL.del 1 ?_
      refine WL.next ?_
      refine WC.ret ?_
      cases h
      exact retC2x Try.results50 (fun a w ha hw => ⟨RC.cellA ha hw 0 rfl ya41 rfl rfl, RC.tmp ha rfl⟩) (fun w hw => hw |>.del 0) hI ⟨_, _, rfl, h32, rfl⟩
    refine WL.rb 25 rfl (bf1n k35) ?_
    refine WL.no rfl rfl rfl rfl ?_
    refine WL.no rfl rfl rfl rfl ?_
    refine WL.no rfl rfl rfl rfl ?_
    refine pkT rfl rfl rfl ?_
    refine WL.del 1 ?_
    refine WL.next ?_
    refine WC.cond rfl (fun _ => ?_) (fun k => by cases k)
    refine WC.seq ?_
    refine WC.region ?_
    refine bu bt41 rfl rfl rfl ?_
    refine WL.front 1 ?_
    refine sta (C' := #[(.int .i64 0), (.int .i64 0), (.int .i64 0), (.int .i64 0), (.int .i64 0), (.slice none 0 0), (.bool false), (.int .i64 0), (.int .i64 0)]) sz41 rfl rfl rfl rfl rfl rfl ?_
    refine asg rfl rfl ?_
    refine WL.del 1 ?_
    refine WL.next ?_
    refine WC.ret ?_
    refine WX.then_ret ?_
    cases h
    exact retC2x Try.results50 (fun a w ha hw => ⟨RC.cellA ha hw 0 rfl ya41 rfl rfl, RC.tmp ha rfl⟩) (fun w hw => hw |>.del 0) hI ⟨_, _, rfl, (IV.nil _ : IV _ _ ([] : List UInt8)), rfl⟩
  refine WC.seq ?_
  refine WC.region ?_
  refine bu bt41 rfl rfl rfl ?_
  refine WL.front 1 ?_
  refine sta (C' := #[(.int .i64 0), (.int .i64 0), (.int .i64 0), (.int .i64 0), (.int .i64 0), (.slice none 0 0), (.bool false), (.int .i64 0), (.int .i64 0)]) sz41 rfl rfl rfl rfl rfl rfl ?_
  refine asg rfl rfl ?_
  refine WL.del 1 ?_
  refine WL.next ?_
  refine WC.ret ?_
  refine WX.then_ret ?_
  cases h
  exact retC2x Try.results50 (fun a w ha hw => ⟨RC.cellA ha hw 0 rfl ya41 rfl rfl, RC.tmp ha rfl⟩) (fun w hw => hw |>.del 0) hI ⟨_, _, rfl, (IV.nil _ : IV _ _ ([] : List UInt8)), rfl⟩
theorem W76 {I : Mem} {G : List Asn} {p0 : haulierref01_Reader} {r : UInt8 × haulierref01_Reader} (h : haulierref01_Reader_Byte p0 = some r) {g0 : Nat} :
    CallsS Try.prog 76 #[.pointer (some ⟨g0, 0, none⟩)] I (Ob_haulierref01_Reader g0 p0 :: G) (fun v J G' => v = .int .u8 (r.1.toNat : Int) ∧ Ob_haulierref01_Reader g0 (r.2) :: G = G') := by
  refine CallsS.enter Try.func76 rfl Try.ntmps76 rfl (fun w0 => ?_)
  have hI := Mem.le.refl I
  unfold haulierref01_Reader_Byte at h
  refine WC.seq ?_
  refine WC.region ?_
  refine asg rfl rfl ?_
  refine WL.next ?_
  refine WC.seq ?_
  refine WC.seq ?_
  obtain ⟨j20, hj20, h⟩ := bnd h
  refine WC.joinQ (σ := haulierref01_Reader × Bool) (fun (s18, x19) => [(0, (.pointer (some ⟨g0, 0, none⟩))), (18, (.bool x19))]) (fun (s18, x19) => Ob_haulierref01_Reader g0 s18 :: G) (fun (s18, x19) J => (s18, x19) = j20) (fun kj20 => ?_) ?_
  · skip
    have lj20 := Mem.le.refl I
    refine WC.open_haulierref01_Reader (fun a21 c22 h23 => ?_)
    refine WC.sub (r := [(0, (.pointer (some ⟨g0, 0, none⟩)))]) ?_ ⟨rfl, trivial⟩
    rcases spl hj20 with ⟨k24, hj20⟩ | ⟨k24, hj20⟩
    · skip
      refine WC.drawn mo (nthL [[], [0], [0, 1], [0, 1, 2], [0, 1, 2, 3], [0, 1, 2, 3, 4], [0, 1, 2, 3, 4, 5], [0, 1, 2, 3, 4, 5, 6], [0, 1, 2, 3, 4, 5, 6, 7], [0, 1, 2, 3, 4], [0, 1, 2, 3, 4, 9], [0, 1, 2, 3, 4, 9, 10], [0, 1, 2, 3, 4, 9, 10, 11], [0, 1, 2, 3, 4, 9, 10, 11, 12], [0, 1, 2, 3, 4, 5, 6, 7, 8, 9, 10, 11, 12, 13], [0, 1, 2, 3, 4, 5, 6, 7, 8, 9, 10, 11, 12, 13, 14]]) (nthL [[], [0], [1], [2], [3], [4], [4], [4], [4], [4], [4], [4], [4], [4], [4], [4, 14]]) (nthK [.val (.pointer (some ⟨g0, 0, none⟩)), .val (.pointer (some ⟨g0, 0, none⟩)), .val (.pointer (some ⟨g0, 2, none⟩)), .val (.bool p0.Bad), .val (.bool true), .val undef, .val undef, .val undef, .val undef, .val undef, .val undef, .val undef, .val undef, .val undef, .val undef, .val (.bool true)]) [⟨none, none, [3], [], fun _ => bl g0 #[(.slice a21 p0.B.length c22), (.int .i64 p0.At), (.bool p0.Bad)] 78⟩] (by kernel_rfl) (by kernel_rfl) (by kernel_rfl) (H := G) rfl ⟨?_, ?_, ?_, ?_, ?_, ?_, ?_, ?_, ?_, ?_, ?_, ?_, ?_, ?_, ?_, ?_, trivial⟩ ?_
      · intro Q ρ I1 H hI1 hk hpost
        have hc := Mem.le.refl I1
        refine mv rfl rfl ?_
        refine WL.nil ?_
        exact hpost _ _ hc rfl _ (fun _ hd => by obtain rfl := Option.some.inj hd; exact ⟨rfl, trivial⟩)
      · intro Q ρ I1 H hI1 hk hpost
        obtain ⟨_, -⟩ := hk
        have hc := Mem.le.refl I1
        refine nc rfl rfl ?_
        refine WL.nil ?_
        exact hpost _ _ hc rfl _ (fun _ hd => by obtain rfl := Option.some.inj hd; exact ⟨rfl, trivial⟩)
      · intro Q ρ I1 H hI1 hk hpost
        obtain ⟨_, -⟩ := hk
        have hc := Mem.le.refl I1
        refine fa fl78_2 rfl rfl ?_
        refine WL.nil ?_
        exact hpost _ _ hc rfl _ (fun _ hd => by obtain rfl := Option.some.inj hd; exact ⟨rfl, trivial⟩)
      · intro Q ρ I1 H hI1 hk hpost
        obtain ⟨_, -⟩ := hk
        have hc := Mem.le.refl I1
        refine ld 0 na4 rfl rfl rfl rfl ?_
        refine WL.nil ?_
        exact hpost _ _ hc rfl _ (fun _ hd => by obtain rfl := Option.some.inj hd; exact ⟨rfl, trivial⟩)
      · intro Q ρ I1 H hI1 hk hpost
        obtain ⟨_, -⟩ := hk
        have hc := Mem.le.refl I1
        refine mv rfl rfl ?_
        refine WL.nil ?_
        exact hpost _ _ hc (bt1 k24) _ (fun _ hd => by obtain rfl := Option.some.inj hd; exact ⟨rfl, trivial⟩)
      · intro Q ρ I1 H hI1 hk hpost
        obtain ⟨_, -⟩ := hk
        have hc := Mem.le.refl I1
        refine WL.no rfl rfl rfl rfl ?_
        refine WL.nil ?_
        exact hpost _ _ hc rfl _ (fun _ hd => by obtain rfl := Option.some.inj hd; exact ⟨rfl, trivial⟩)
      · intro Q ρ I1 H hI1 hk hpost
        obtain ⟨_, -⟩ := hk
        have hc := Mem.le.refl I1
        refine WL.no rfl rfl rfl rfl ?_
        refine WL.nil ?_
        exact hpost _ _ hc rfl _ (fun _ hd => by obtain rfl := Option.some.inj hd; exact ⟨rfl, trivial⟩)
      · intro Q ρ I1 H hI1 hk hpost
        obtain ⟨_, -⟩ := hk
        have hc := Mem.le.refl I1
        refine WL.no rfl rfl rfl rfl ?_
        refine WL.nil ?_
        exact hpost _ _ hc rfl _ (fun _ hd => by obtain rfl := Option.some.inj hd; exact ⟨rfl, trivial⟩)
      · intro Q ρ I1 H hI1 hk hpost
        obtain ⟨_, -⟩ := hk
        have hc := Mem.le.refl I1
        refine WL.no rfl rfl rfl rfl ?_
        refine WL.nil ?_
        exact hpost _ _ hc rfl _ (fun _ hd => by obtain rfl := Option.some.inj hd; exact ⟨rfl, trivial⟩)
      · intro Q ρ I1 H hI1 hk hpost
        obtain ⟨_, -⟩ := hk
        have hc := Mem.le.refl I1
        refine WL.no rfl rfl rfl rfl ?_
        refine WL.nil ?_
        exact hpost _ _ hc rfl _ (fun _ hd => by obtain rfl := Option.some.inj hd; exact ⟨rfl, trivial⟩)
      · intro Q ρ I1 H hI1 hk hpost
        obtain ⟨_, -⟩ := hk
        have hc := Mem.le.refl I1
        refine WL.no rfl rfl rfl rfl ?_
        refine WL.nil ?_
        exact hpost _ _ hc rfl _ (fun _ hd => by obtain rfl := Option.some.inj hd; exact ⟨rfl, trivial⟩)
      · intro Q ρ I1 H hI1 hk hpost
        obtain ⟨_, -⟩ := hk
        have hc := Mem.le.refl I1
        refine WL.no rfl rfl rfl rfl ?_
        refine WL.nil ?_
        exact hpost _ _ hc rfl _ (fun _ hd => by obtain rfl := Option.some.inj hd; exact ⟨rfl, trivial⟩)
      · intro Q ρ I1 H hI1 hk hpost
        obtain ⟨_, -⟩ := hk
        have hc := Mem.le.refl I1
        refine WL.no rfl rfl rfl rfl ?_
        refine WL.nil ?_
        exact hpost _ _ hc rfl _ (fun _ hd => by obtain rfl := Option.some.inj hd; exact ⟨rfl, trivial⟩)
      · intro Q ρ I1 H hI1 hk hpost
        obtain ⟨_, -⟩ := hk
        have hc := Mem.le.refl I1
        refine WL.no rfl rfl rfl rfl ?_
        refine WL.nil ?_
        exact hpost _ _ hc rfl _ (fun _ hd => by obtain rfl := Option.some.inj hd; exact ⟨rfl, trivial⟩)
      · intro Q ρ I1 H hI1 hk hpost
        obtain ⟨_, -⟩ := hk
        have hc := Mem.le.refl I1
        refine WL.no rfl rfl rfl rfl ?_
        refine WL.nil ?_
        exact hpost _ _ hc rfl _ (fun _ hd => by obtain rfl := Option.some.inj hd; exact ⟨rfl, trivial⟩)
      · intro Q ρ I1 H hI1 hk hpost
        obtain ⟨_, _, -⟩ := hk
        have hc := Mem.le.refl I1
        refine pkT rfl rfl rfl ?_
        refine WL.nil ?_
        exact hpost _ _ hc rfl _ (fun _ hd => by obtain rfl := Option.some.inj hd; exact ⟨rfl, trivial⟩)
      rintro ρ J25 hJ26 -
      refine WX.sub (r := [(0, (.pointer (some ⟨g0, 0, none⟩))), (18, (.bool true))]) ?_ ⟨rfl, rfl, trivial⟩
      refine WX.is (H := bl g0 #[(.slice a21 p0.B.length c22), (.int .i64 p0.At), (.bool p0.Bad)] 78 :: G) rfl ?_
      have hI := hI.trans hJ26
      have lj20 := lj20.trans hJ26
      replace h23 := h23.up hJ26
      refine WX.shut_haulierref01_Reader (⟨p0.B, p0.At, p0.Bad⟩ : haulierref01_Reader) h23 ?_
      exact (kj20 ⟨(⟨p0.B, p0.At, p0.Bad⟩ : haulierref01_Reader), true⟩ _ lj20 (Option.some.inj hj20)).sub ⟨rfl, rfl, trivial⟩
    refine WC.drawn mo (nthL [[], [0], [0, 1], [0, 1, 2], [0, 1, 2, 3], [0, 1, 2, 3, 4], [0, 1, 2, 3, 4, 5], [0, 1, 2, 3, 4, 5, 6], [0, 1, 2, 3, 4, 5, 6, 7], [0, 1, 2, 3, 4], [0, 1, 2, 3, 4, 9], [0, 1, 2, 3, 4, 9, 10], [0, 1, 2, 3, 4, 9, 10, 11], [0, 1, 2, 3, 4, 9, 10, 11, 12], [0, 1, 2, 3, 4, 5, 6, 7, 8, 9, 10, 11, 12, 13], [0, 1, 2, 3, 4, 5, 6, 7, 8, 9, 10, 11, 12, 13, 14]]) (nthL [[], [0], [1], [2], [3], [4], [4, 5], [4, 6], [4, 7], [4], [4, 9], [4, 10], [4, 11], [4, 12], [4, 8, 13], [4, 14]]) (nthK [.val (.pointer (some ⟨g0, 0, none⟩)), .val (.pointer (some ⟨g0, 0, none⟩)), .val (.pointer (some ⟨g0, 2, none⟩)), .val (.bool p0.Bad), .val (.bool false), .val (.pointer (some ⟨g0, 0, none⟩)), .val (.pointer (some ⟨g0, 0, none⟩)), .val (.pointer (some ⟨g0, 1, none⟩)), .val (.int .i64 p0.At), .val (.pointer (some ⟨g0, 0, none⟩)), .val (.pointer (some ⟨g0, 0, none⟩)), .val (.pointer (some ⟨g0, 0, none⟩)), .val (.slice a21 p0.B.length c22), .val (.int .i64 (p0.B.length : Int)), .val (.bool (decide ((p0.B.length : Int) ≤ p0.At))), .val (.bool (decide ((p0.B.length : Int) ≤ p0.At)))]) [⟨none, none, [3, 8, 12], [], fun _ => bl g0 #[(.slice a21 p0.B.length c22), (.int .i64 p0.At), (.bool p0.Bad)] 78⟩] (by kernel_rfl) (by kernel_rfl) (by kernel_rfl) (H := G) rfl ⟨?_, ?_, ?_, ?_, ?_, ?_, ?_, ?_, ?_, ?_, ?_, ?_, ?_, ?_, ?_, ?_, trivial⟩ ?_
    · intro Q ρ I1 H hI1 hk hpost
      have hc := Mem.le.refl I1
      refine mv rfl rfl ?_
      refine WL.nil ?_
      exact hpost _ _ hc rfl _ (fun _ hd => by obtain rfl := Option.some.inj hd; exact ⟨rfl, trivial⟩)
    · intro Q ρ I1 H hI1 hk hpost
      obtain ⟨_, -⟩ := hk
      have hc := Mem.le.refl I1
      refine nc rfl rfl ?_
      refine WL.nil ?_
      exact hpost _ _ hc rfl _ (fun _ hd => by obtain rfl := Option.some.inj hd; exact ⟨rfl, trivial⟩)
    · intro Q ρ I1 H hI1 hk hpost
      obtain ⟨_, -⟩ := hk
      have hc := Mem.le.refl I1
      refine fa fl78_2 rfl rfl ?_
      refine WL.nil ?_
      exact hpost _ _ hc rfl _ (fun _ hd => by obtain rfl := Option.some.inj hd; exact ⟨rfl, trivial⟩)
    · intro Q ρ I1 H hI1 hk hpost
      obtain ⟨_, -⟩ := hk
      have hc := Mem.le.refl I1
      refine ld 0 na4 rfl rfl rfl rfl ?_
      refine WL.nil ?_
      exact hpost _ _ hc rfl _ (fun _ hd => by obtain rfl := Option.some.inj hd; exact ⟨rfl, trivial⟩)
    · intro Q ρ I1 H hI1 hk hpost
      obtain ⟨_, -⟩ := hk
      have hc := Mem.le.refl I1
      refine mv rfl rfl ?_
      refine WL.nil ?_
      exact hpost _ _ hc (bf1 k24) _ (fun _ hd => by obtain rfl := Option.some.inj hd; exact ⟨rfl, trivial⟩)
    · intro Q ρ I1 H hI1 hk hpost
      obtain ⟨_, -⟩ := hk
      have hc := Mem.le.refl I1
      refine WL.on rfl rfl ?_
      refine mv rfl rfl ?_
      refine WL.nil ?_
      exact hpost _ _ hc rfl _ (fun _ hd => by obtain rfl := Option.some.inj hd; exact ⟨rfl, trivial⟩)
    · intro Q ρ I1 H hI1 hk hpost
      obtain ⟨_, _, -⟩ := hk
      have hc := Mem.le.refl I1
      refine WL.on rfl rfl ?_
      refine nc rfl rfl ?_
      refine WL.nil ?_
      exact hpost _ _ hc rfl _ (fun _ hd => by obtain rfl := Option.some.inj hd; exact ⟨rfl, trivial⟩)
    · intro Q ρ I1 H hI1 hk hpost
      obtain ⟨_, _, -⟩ := hk
      have hc := Mem.le.refl I1
      refine WL.on rfl rfl ?_
      refine fa fl78_1 rfl rfl ?_
      refine WL.nil ?_
      exact hpost _ _ hc rfl _ (fun _ hd => by obtain rfl := Option.some.inj hd; exact ⟨rfl, trivial⟩)
    · intro Q ρ I1 H hI1 hk hpost
      obtain ⟨_, _, -⟩ := hk
      have hc := Mem.le.refl I1
      refine WL.on rfl rfl ?_
      refine ld 0 na3 rfl rfl rfl rfl ?_
      refine WL.nil ?_
      exact hpost _ _ hc rfl _ (fun _ hd => by obtain rfl := Option.some.inj hd; exact ⟨rfl, trivial⟩)
    · intro Q ρ I1 H hI1 hk hpost
      obtain ⟨_, -⟩ := hk
      have hc := Mem.le.refl I1
      refine WL.on rfl rfl ?_
      refine mv rfl rfl ?_
      refine WL.nil ?_
      exact hpost _ _ hc rfl _ (fun _ hd => by obtain rfl := Option.some.inj hd; exact ⟨rfl, trivial⟩)
    · intro Q ρ I1 H hI1 hk hpost
      obtain ⟨_, _, -⟩ := hk
      have hc := Mem.le.refl I1
      refine WL.on rfl rfl ?_
      refine nc rfl rfl ?_
      refine WL.nil ?_
      exact hpost _ _ hc rfl _ (fun _ hd => by obtain rfl := Option.some.inj hd; exact ⟨rfl, trivial⟩)
    · intro Q ρ I1 H hI1 hk hpost
      obtain ⟨_, _, -⟩ := hk
      have hc := Mem.le.refl I1
      refine WL.on rfl rfl ?_
      refine fa fl78_0 rfl rfl ?_
      refine WL.nil ?_
      exact hpost _ _ hc rfl _ (fun _ hd => by obtain rfl := Option.some.inj hd; exact ⟨rfl, trivial⟩)
    · intro Q ρ I1 H hI1 hk hpost
      obtain ⟨_, _, -⟩ := hk
      have hc := Mem.le.refl I1
      refine WL.on rfl rfl ?_
      refine ld 0 na22 rfl rfl rfl rfl ?_
      refine WL.nil ?_
      exact hpost _ _ hc rfl _ (fun _ hd => by obtain rfl := Option.some.inj hd; exact ⟨rfl, trivial⟩)
    · intro Q ρ I1 H hI1 hk hpost
      obtain ⟨_, _, -⟩ := hk
      replace h23 := h23.up hI1
      have hc := Mem.le.refl I1
      refine WL.on rfl rfl ?_
      refine ln et22 rfl (h23.rd) rfl ?_
      refine WL.nil ?_
      exact hpost _ _ hc rfl _ (fun _ hd => by obtain rfl := Option.some.inj hd; exact ⟨rfl, trivial⟩)
    · intro Q ρ I1 H hI1 hk hpost
      obtain ⟨_, _, _, -⟩ := hk
      have hc := Mem.le.refl I1
      refine WL.on rfl rfl ?_
      refine ge rfl rfl rfl ?_
      refine WL.nil ?_
      exact hpost _ _ hc rfl _ (fun _ hd => by obtain rfl := Option.some.inj hd; exact ⟨rfl, trivial⟩)
    · intro Q ρ I1 H hI1 hk hpost
      obtain ⟨_, _, -⟩ := hk
      have hc := Mem.le.refl I1
      refine pkF rfl rfl rfl ?_
      refine WL.nil ?_
      exact hpost _ _ hc rfl _ (fun _ hd => by obtain rfl := Option.some.inj hd; exact ⟨rfl, trivial⟩)
    rintro ρ J27 hJ28 -
    refine WX.sub (r := [(0, (.pointer (some ⟨g0, 0, none⟩))), (18, (.bool (decide ((p0.B.length : Int) ≤ p0.At))))]) ?_ ⟨rfl, rfl, trivial⟩
    refine WX.is (H := bl g0 #[(.slice a21 p0.B.length c22), (.int .i64 p0.At), (.bool p0.Bad)] 78 :: G) rfl ?_
    have hI := hI.trans hJ28
    have lj20 := lj20.trans hJ28
    replace h23 := h23.up hJ28
    refine WX.shut_haulierref01_Reader (⟨p0.B, p0.At, p0.Bad⟩ : haulierref01_Reader) h23 ?_
    exact (kj20 ⟨(⟨p0.B, p0.At, p0.Bad⟩ : haulierref01_Reader), (decide ((p0.B.length : Int) ≤ p0.At))⟩ _ lj20 (Option.some.inj hj20)).sub ⟨rfl, rfl, trivial⟩
  rintro ⟨s18, x19⟩ J29 hJ30 rfl
  have hI := hI.trans hJ30
  refine WX.then_ ?_
  refine WC.iteb rfl h (fun k31 h => ?_) (fun k31 h => ?_)
  · skip
    refine WC.seq ?_
    refine WC.region ?_
    refine mv rfl rfl ?_
    refine nc rfl rfl ?_
    refine fa fl78_2 rfl rfl ?_
    refine WL.open_haulierref01_Reader (fun a32 c33 h34 => ?_)
    refine st (C' := #[(.slice a32 s18.B.length c33), (.int .i64 s18.At), (.bool true)]) sz4 rfl rfl rfl rfl rfl ?_
    refine WL.next ?_
    refine WC.seq ?_
    refine WC.region ?_
    refine asg rfl rfl ?_
    refine WL.next ?_
    refine WC.ret ?_
    refine WX.then_ret ?_
    refine WX.shut_haulierref01_Reader (⟨s18.B, s18.At, true⟩ : haulierref01_Reader) h34 ?_
    cases h
    exact ret1 Try.results76 rfl hI ⟨rfl, rfl⟩
  refine WC.skip ?_
  refine WX.then_ ?_
  refine WC.seq ?_
  refine WC.region ?_
  refine mv rfl rfl ?_
  refine nc rfl rfl ?_
  refine fa fl78_1 rfl rfl ?_
  refine WL.open_haulierref01_Reader (fun a35 c36 h37 => ?_)
  refine ld 0 na3 rfl rfl rfl rfl ?_
  refine ad rfl rfl rfl ?_
  refine nc rfl rfl ?_
  refine fa fl78_1 rfl rfl ?_
  refine st (C' := #[(.slice a35 s18.B.length c36), (.int .i64 (w64 (s18.At + 1))), (.bool s18.Bad)]) sz3 rfl rfl rfl rfl rfl ?_
  refine WL.next ?_
  refine WC.seq ?_
  refine WC.sub (r := [(0, (.pointer (some ⟨g0, 0, none⟩)))]) ?_ ⟨rfl, trivial⟩
  obtain ⟨z38, e39, h⟩ := bnd h
  refine WC.drawn mo (nthL [[], [0], [0, 1], [0, 1, 2], [], [4], [4, 5], [4, 5, 6], [4, 5, 6, 7], [0, 1, 2, 3, 4, 5, 6, 7, 8], [0, 1, 2, 3, 4, 5, 6, 7, 8, 9], [0, 1, 2, 3, 4, 5, 6, 7, 8, 9, 10]]) (nthL [[], [0], [1], [2], [], [4], [5], [6], [7], [3, 8], [9], [10]]) (nthK [.val (.pointer (some ⟨g0, 0, none⟩)), .val (.pointer (some ⟨g0, 0, none⟩)), .val (.pointer (some ⟨g0, 0, none⟩)), .val (.slice a35 s18.B.length c36), .val (.pointer (some ⟨g0, 0, none⟩)), .val (.pointer (some ⟨g0, 0, none⟩)), .val (.pointer (some ⟨g0, 1, none⟩)), .val (.int .i64 (w64 (s18.At + 1))), .val (.int .i64 (w64 ((w64 (s18.At + 1)) - 1))), .ip z38, .val (.int .u8 (z38.toNat : Int)), .val (.int .u8 (z38.toNat : Int))]) [⟨none, none, [3, 7], [], fun _ => bl g0 #[(.slice a35 s18.B.length c36), (.int .i64 (w64 (s18.At + 1))), (.bool s18.Bad)] 78⟩] (by kernel_rfl) (by kernel_rfl) (by kernel_rfl) (H := G) rfl ⟨?_, ?_, ?_, ?_, ?_, ?_, ?_, ?_, ?_, ?_, ?_, ?_, trivial⟩ ?_
  · intro Q ρ I1 H hI1 hk hpost
    have hc := Mem.le.refl I1
    refine mv rfl rfl ?_
    refine WL.nil ?_
    exact hpost _ _ hc rfl _ (fun _ hd => by obtain rfl := Option.some.inj hd; exact ⟨rfl, trivial⟩)
  · intro Q ρ I1 H hI1 hk hpost
    obtain ⟨_, -⟩ := hk
    have hc := Mem.le.refl I1
    refine nc rfl rfl ?_
    refine WL.nil ?_
    exact hpost _ _ hc rfl _ (fun _ hd => by obtain rfl := Option.some.inj hd; exact ⟨rfl, trivial⟩)
  · intro Q ρ I1 H hI1 hk hpost
    obtain ⟨_, -⟩ := hk
    have hc := Mem.le.refl I1
    refine fa fl78_0 rfl rfl ?_
    refine WL.nil ?_
    exact hpost _ _ hc rfl _ (fun _ hd => by obtain rfl := Option.some.inj hd; exact ⟨rfl, trivial⟩)
  · intro Q ρ I1 H hI1 hk hpost
    obtain ⟨_, -⟩ := hk
    have hc := Mem.le.refl I1
    refine ld 0 na22 rfl rfl rfl rfl ?_
    refine WL.nil ?_
    exact hpost _ _ hc rfl _ (fun _ hd => by obtain rfl := Option.some.inj hd; exact ⟨rfl, trivial⟩)
  · intro Q ρ I1 H hI1 hk hpost
    have hc := Mem.le.refl I1
    refine mv rfl rfl ?_
    refine WL.nil ?_
    exact hpost _ _ hc rfl _ (fun _ hd => by obtain rfl := Option.some.inj hd; exact ⟨rfl, trivial⟩)
  · intro Q ρ I1 H hI1 hk hpost
    obtain ⟨_, -⟩ := hk
    have hc := Mem.le.refl I1
    refine nc rfl rfl ?_
    refine WL.nil ?_
    exact hpost _ _ hc rfl _ (fun _ hd => by obtain rfl := Option.some.inj hd; exact ⟨rfl, trivial⟩)
  · intro Q ρ I1 H hI1 hk hpost
    obtain ⟨_, -⟩ := hk
    have hc := Mem.le.refl I1
    refine fa fl78_1 rfl rfl ?_
    refine WL.nil ?_
    exact hpost _ _ hc rfl _ (fun _ hd => by obtain rfl := Option.some.inj hd; exact ⟨rfl, trivial⟩)
  · intro Q ρ I1 H hI1 hk hpost
    obtain ⟨_, -⟩ := hk
    have hc := Mem.le.refl I1
    refine ld 0 na3 rfl rfl rfl rfl ?_
    refine WL.nil ?_
    exact hpost _ _ hc rfl _ (fun _ hd => by obtain rfl := Option.some.inj hd; exact ⟨rfl, trivial⟩)
  · intro Q ρ I1 H hI1 hk hpost
    obtain ⟨_, -⟩ := hk
    have hc := Mem.le.refl I1
    refine su rfl rfl rfl ?_
    refine WL.nil ?_
    exact hpost _ _ hc rfl _ (fun _ hd => by obtain rfl := Option.some.inj hd; exact ⟨rfl, trivial⟩)
  · intro Q ρ I1 H hI1 hk hpost
    obtain ⟨_, _, -⟩ := hk
    replace h37 := h37.up hI1
    have hc := Mem.le.refl I1
    refine ixi et22 rfl rfl h37 e39 rfl (fun uv40 h41 => ?_)
    refine WL.nil ?_
    exact hpost _ _ hc h41 _ (fun _ hd => by obtain rfl := Option.some.inj hd; exact ⟨rfl, trivial⟩)
  · intro Q ρ I1 H hI1 hk hpost
    obtain ⟨k9, -⟩ := hk
    have hc := Mem.le.refl I1
    refine ldi (α := UInt8) na5 rfl k9 rfl (fun uv42 h43 => ?_)
    obtain rfl := h43.u8
    refine WL.nil ?_
    exact hpost _ _ hc rfl _ (fun _ hd => by obtain rfl := Option.some.inj hd; exact ⟨rfl, trivial⟩)
  · intro Q ρ I1 H hI1 hk hpost
    obtain ⟨_, -⟩ := hk
    have hc := Mem.le.refl I1
    refine asg rfl rfl ?_
    refine WL.nil ?_
    exact hpost _ _ hc rfl _ (fun _ hd => by obtain rfl := Option.some.inj hd; exact ⟨rfl, trivial⟩)
  rintro ρ J44 hJ45 -
  refine WX.sub (r := [(2, (.int .u8 (z38.toNat : Int)))]) ?_ ⟨rfl, trivial⟩
  refine WX.is (H := bl g0 #[(.slice a35 s18.B.length c36), (.int .i64 (w64 (s18.At + 1))), (.bool s18.Bad)] 78 :: G) rfl ?_
  have hI := hI.trans hJ45
  replace h37 := h37.up hJ45
  refine WX.then_ ?_
  refine WC.ret ?_
  refine WX.shut_haulierref01_Reader (⟨s18.B, w64 (s18.At + 1), s18.Bad⟩ : haulierref01_Reader) h37 ?_
  cases h
  exact ret1 Try.results76 rfl hI ⟨rfl, rfl⟩
end Go.Proofs.Ytgobccnphhljcaa
