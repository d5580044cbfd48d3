/- Printed by a program of this session: walks of Go functions. -/
import Derived.Test.YtcfapdamgbbklaaKf
import Derived.Test.YtcfapdamgbbklaaDf
import Derived.Test.YtcfapdamgbbklaaK0
import Derived.Test.YtcfapdamgbbklaaK1
import Derived.Test.YtcfapdamgbbklaaK2
namespace Go.Proofs.Ytcfapdamgbbklaa
set_option linter.unusedVariables false
set_option maxRecDepth 10000
set_option maxHeartbeats 2000000
theorem W40 {I : Mem} {G : List Asn} {p0 : List UInt8} {r : Int × Int × Bool} (h : vint_Take p0 = some r) {u0 : Value} (hp0 : IV I u0 p0) :
    CallsS Try.prog 40 #[u0] I (G) (fun v J G' => v = .tuple #[.int .i64 r.1, .int .i64 r.2.1, .bool r.2.2] ∧ G = G') := by
  refine CallsS.enter Try.func40 rfl Try.ntmps40 rfl (fun w0 => ?_)
  have hI := Mem.le.refl I
  obtain ⟨a0, c0, rfl⟩ := hp0.hd
  unfold vint_Take at h
  refine WC.seq ?_
  refine WC.region ?_
  refine asg rfl rfl ?_
  refine asg rfl rfl ?_
  refine asg rfl rfl ?_
  refine WL.next ?_
  refine WC.seq ?_
  refine WC.seq ?_
  refine WC.region ?_
  refine mv rfl rfl ?_
  refine ln et27 rfl (hp0.rd) rfl ?_
  refine eq rfl rfl rfl ?_
  refine WL.next ?_
  refine WC.ite rfl h (fun k1 h => ?_) (fun k1 h => ?_)
  · skip
    refine WC.seq ?_
    refine WC.region ?_
    refine asg rfl rfl ?_
    refine asg rfl rfl ?_
    refine asg rfl rfl ?_
    refine WL.next ?_
    refine WC.ret ?_
    refine WX.then_ret ?_
    cases h
    exact ret3 Try.results40 rfl rfl rfl hI ⟨rfl, rfl⟩
  refine WC.skip ?_
  refine WX.then_ ?_
  refine WC.seq ?_
  refine WC.region ?_
  refine mv rfl rfl ?_
  obtain ⟨z2, e3, h⟩ := bnd h
  refine ixi et27 rfl rfl hp0 e3 rfl (fun uv4 h5 => ?_)
  refine ldi (α := UInt8) na5 rfl h5 rfl (fun uv6 h7 => ?_)
  obtain rfl := h7.u8
  refine srb (a := z2) (by decide) rfl rfl rfl rfl ?_
  refine sl (Int.natCast_nonneg _) rfl rfl rfl ?_
  refine asg rfl rfl ?_
  refine WL.next ?_
  refine WC.seq ?_
  refine WC.seq ?_
  refine WC.region ?_
  refine mv rfl rfl ?_
  refine mv rfl rfl ?_
  refine ln et27 rfl (hp0.rd) rfl ?_
  refine gt rfl rfl rfl ?_
  refine WL.next ?_
  refine WC.ite rfl h (fun k8 h => ?_) (fun k8 h => ?_)
  · skip
    refine WC.seq ?_
    refine WC.region ?_
    refine asg rfl rfl ?_
    refine asg rfl rfl ?_
    refine asg rfl rfl ?_
    refine WL.next ?_
    refine WC.ret ?_
    refine WX.then_ret ?_
    cases h
    exact ret3 Try.results40 rfl rfl rfl hI ⟨rfl, rfl⟩
  refine WC.skip ?_
  refine WX.then_ ?_
  refine WC.seq ?_
  refine WC.region ?_
  refine mv rfl rfl ?_
  obtain ⟨z9, e10, h⟩ := bnd h
  refine ixi et27 rfl rfl hp0 e10 rfl (fun uv11 h12 => ?_)
  refine ldi (α := UInt8) na5 rfl h12 rfl (fun uv13 h14 => ?_)
  obtain rfl := h14.u8
  refine and8 (a := z9) (b := (63 : UInt8)) rfl rfl rfl rfl rfl ?_
  refine cv8i Try.underlying5 Try.underlying3 rfl rfl ?_
  refine asg rfl rfl ?_
  refine WL.next ?_
  refine WC.seq ?_
  refine WC.seq ?_
  refine WC.region ?_
  refine mv rfl rfl ?_
  refine mv rfl rfl ?_
  obtain ⟨y15, e16, h⟩ := bnd h
  refine cti (kl := .i64) (kh := .i64) et27 rfl hp0 (.inr ⟨_, rfl, rfl, rfl⟩) (.inr ⟨_, rfl, rfl, rfl⟩) e16 rfl (fun a17 c18 h19 => ?_)
  refine ln et27 rfl (h19.rd) rfl ?_
  refine mv rfl rfl ?_
  refine WL.next ?_
  obtain ⟨j44, hj44, h⟩ := bnd h
  refine WC.joinQ (σ := Int) (fun x43 => [(0, (.slice a0 p0.length c0)), (2, (.int .i64 x43)), (3, (.int .i64 (sl64 1 ((sr8 z2 6).toNat : Int))))]) (fun x43 => G) (fun x43 J => x43 = j44) (fun kj44 => ?_) ?_
  · skip
    have lj44 := Mem.le.refl I
    refine WC.block ?_
    refine WC.loop (σ := Int × Int) (fun k (x45, x46) => vint_Take_l0 y15 k x45 x46) _ (fun (x45, x46) => [(0, (.slice a0 p0.length c0)), (2, (.int .i64 x45)), (3, (.int .i64 (sl64 1 ((sr8 z2 6).toNat : Int)))), (26, (.slice a17 y15.length c18)), (27, (.int .i64 (y15.length : Int))), (28, (.int .i64 x46))]) (fun (x45, x46) => G) (fun (x45, x46) J => True) (fun ⟨x45, x46⟩ => rfl) bigN ⟨((z9 &&& (63 : UInt8)).toNat : Int), 0⟩ hj44 trivial ⟨rfl, rfl, rfl, rfl, rfl, rfl, trivial⟩ rfl ?_
    rintro k0 ih0 ⟨x45, x46⟩ J57 hJ58 - hj44
    change vint_Take_l0 y15 (k0 + 1) x45 x46 = _ at hj44
    rw [vint_Take_l0] at hj44
    have hI := hI.trans hJ58
    have lj44 := lj44.trans hJ58
    replace hp0 := hp0.up hJ58; replace h19 := h19.up hJ58
    have ll0 := hJ58
    refine WC.seq ?_
    refine WC.region ?_
    refine lt rfl rfl rfl ?_
    refine WL.next ?_
    refine WC.seq ?_
    refine WC.ite rfl hj44 (fun k59 hj44 => ?_) (fun k59 hj44 => ?_)
    · skip
      refine WC.skip ?_
      refine WX.then_ ?_
      refine WC.seq ?_
      refine WC.block ?_
      refine WC.seq ?_
      refine WC.region ?_
      obtain ⟨z60, e61, hj44⟩ := bnd hj44
      refine ixi et27 rfl rfl h19 e61 rfl (fun uv62 h63 => ?_)
      refine ldi (α := UInt8) na5 rfl h63 rfl (fun uv64 h65 => ?_)
      obtain rfl := h65.u8
      refine asg rfl rfl ?_
      refine WL.next ?_
      refine WC.region ?_
      refine mv rfl rfl ?_
      refine sl (by decide) rfl rfl rfl ?_
      refine mv rfl rfl ?_
      refine cv8i Try.underlying5 Try.underlying3 rfl rfl ?_
      refine bt (.inr (.inl rfl)) rfl rfl rfl ?_
      obtain ⟨x66, e67, hj44⟩ := bnd hj44
      refine WL.re (congrArg (Value.int .i64) (Option.some.inj e67)) ?_
      refine asg rfl rfl ?_
      refine WL.nil ?_
      refine WX.block_normal ?_
      refine WX.then_ ?_
      refine WC.region ?_
      refine ad rfl rfl rfl ?_
      refine mv rfl rfl ?_
      refine WL.nil ?_
      refine WX.round ?_
      exact (ih0 ⟨x66, w64 (x46 + 1)⟩ _ ll0 trivial hj44).sub ⟨rfl, rfl, rfl, rfl, rfl, rfl, trivial⟩
    refine WC.exit ?_
    refine WX.then_exit ?_
    refine WX.then_exit ?_
    refine WX.block_here ?_
    exact (kj44 x45 _ lj44 (Option.some.inj hj44)).sub ⟨rfl, rfl, rfl, trivial⟩
  rintro x43 J68 hJ69 rfl
  have hI := hI.trans hJ69
  replace hp0 := hp0.up hJ69
  refine WX.then_ ?_
  refine WC.seq ?_
  refine WC.seq ?_
  refine WC.sub (r := [(0, (.slice a0 p0.length c0)), (2, (.int .i64 x43)), (3, (.int .i64 (sl64 1 ((sr8 z2 6).toNat : Int))))]) ?_ ⟨rfl, rfl, rfl, trivial⟩
  obtain ⟨x70, e71, h⟩ := bnd h
  obtain ⟨y78, e79, h⟩ := bnd h
  obtain ⟨x86, e87, h⟩ := bnd h
  refine WC.drawn mo (nthL [[], [0], [], [], [2, 3], [0, 1, 2, 3, 4], [0, 1, 2, 3, 4, 5]]) (nthL [[], [0], [], [], [2, 3], [1, 4], [5]]) (nthK [.val (.int .i64 x43), .any, .val (.slice a0 p0.length c0), .val (.int .i64 (sl64 1 ((sr8 z2 6).toNat : Int))), .imm y78, .val (.bool x86), .val (.bool (!x86))]) [⟨(some 1), (some 5), [], [1], fun l => OV 5 (vget l 0) x70⟩] (by kernel_rfl) (by kernel_rfl) (by kernel_rfl) (H := G) rfl ⟨?_, ?_, ?_, ?_, ?_, ?_, ?_, trivial⟩ ?_
  · intro Q ρ I1 H hI1 hk hpost
    have hc := Mem.le.refl I1
    refine mv rfl rfl ?_
    refine WL.nil ?_
    exact hpost _ _ hc rfl _ (fun _ hd => by obtain rfl := Option.some.inj hd; exact ⟨rfl, trivial⟩)
  · intro Q ρ I1 H hI1 hk hpost
    obtain ⟨_, -⟩ := hk
    have hc := Mem.le.refl I1
    refine call cl35 rfl rfl (W35 e71) (fun _ J72 _ hJ73 q74 => ?_)
    have hc := hc.trans hJ73
    obtain ⟨a75, c76, rfl, rfl⟩ := q74
    refine WL.nil ?_
    exact hpost _ _ hc trivial _ (fun _ hd => by obtain rfl := Option.some.inj hd; exact ⟨rfl, trivial⟩)
  · intro Q ρ I1 H hI1 hk hpost
    have hc := Mem.le.refl I1
    refine mv rfl rfl ?_
    refine WL.nil ?_
    exact hpost _ _ hc rfl _ (fun _ hd => by obtain rfl := Option.some.inj hd; exact ⟨rfl, trivial⟩)
  · intro Q ρ I1 H hI1 hk hpost
    have hc := Mem.le.refl I1
    refine mv rfl rfl ?_
    refine WL.nil ?_
    exact hpost _ _ hc rfl _ (fun _ hd => by obtain rfl := Option.some.inj hd; exact ⟨rfl, trivial⟩)
  · intro Q ρ I1 H hI1 hk hpost
    obtain ⟨_, _, -⟩ := hk
    replace hp0 := hp0.up hI1
    have hc := Mem.le.refl I1
    refine cti (kl := .i64) (kh := .i64) et27 rfl hp0 (.inl ⟨rfl, rfl, rfl⟩) (.inr ⟨_, rfl, rfl, rfl⟩) e79 rfl (fun a80 c81 h82 => ?_)
    refine WL.nil ?_
    exact hpost _ _ hc h82 _ (fun _ hd => by obtain rfl := Option.some.inj hd; exact ⟨rfl, trivial⟩)
  · intro Q ρ I1 H hI1 hk hpost
    obtain ⟨_, k4, -⟩ := hk
    have hc := Mem.le.refl I1
    refine WL.freeze (fun J83 hJ84 h85 => ?_)
    have hc := hc.trans hJ84
    replace k4 := k4.up hJ84
    refine call cl21 rfl rfl (W21 e87 h85 k4) (fun _ J88 _ hJ89 q90 => ?_)
    have hc := hc.trans hJ89
    replace h85 := h85.up hJ89; replace k4 := k4.up hJ89
    obtain ⟨rfl, rfl⟩ := q90
    refine WL.nil ?_
    exact hpost _ _ hc rfl _ (fun _ hd => by obtain rfl := Option.some.inj hd; exact ⟨rfl, trivial⟩)
  · intro Q ρ I1 H hI1 hk hpost
    obtain ⟨_, -⟩ := hk
    have hc := Mem.le.refl I1
    refine nt rfl rfl ?_
    refine WL.nil ?_
    exact hpost _ _ hc rfl _ (fun _ hd => by obtain rfl := Option.some.inj hd; exact ⟨rfl, trivial⟩)
  rintro ρ J91 hJ92 -
  refine WX.sub (r := [(2, (.int .i64 x43)), (3, (.int .i64 (sl64 1 ((sr8 z2 6).toNat : Int)))), (44, (.bool (!x86)))]) ?_ ⟨rfl, rfl, rfl, trivial⟩
  refine WX.is (H := G) rfl ?_
  have hI := hI.trans hJ92
  refine WX.then_ ?_
  refine WC.itebn rfl h (fun k93 h => ?_) (fun k93 h => ?_)
  · skip
    refine WC.skip ?_
    refine WX.then_ ?_
    refine WC.seq ?_
    refine WC.region ?_
    refine mv rfl rfl ?_
    refine mv rfl rfl ?_
    refine asg rfl rfl ?_
    refine asg rfl rfl ?_
    refine asg rfl rfl ?_
    refine WL.next ?_
    refine WC.ret ?_
    cases h
    exact ret3 Try.results40 rfl rfl rfl hI ⟨rfl, rfl⟩
  refine WC.seq ?_
  refine WC.region ?_
  refine asg rfl rfl ?_
  refine asg rfl rfl ?_
  refine asg rfl rfl ?_
  refine WL.next ?_
  refine WC.ret ?_
  refine WX.then_ret ?_
  cases h
  exact ret3 Try.results40 rfl rfl rfl hI ⟨rfl, rfl⟩
theorem W30 {I : Mem} {G : List Asn} {p0 : span_Reader} {r : Int × span_Reader} (h : span_Reader_Number p0 = some r) {g0 : Nat} :
    CallsS Try.prog 30 #[.pointer (some ⟨g0, 0, none⟩)] I (Ob_span_Reader g0 p0 :: G) (fun v J G' => v = .int .i64 r.1 ∧ Ob_span_Reader g0 (r.2) :: G = G') := by
  refine CallsS.enter Try.func30 rfl Try.ntmps30 rfl (fun w0 => ?_)
  have hI := Mem.le.refl I
  unfold span_Reader_Number at h
  refine WC.seq ?_
  refine WC.region ?_
  refine asg rfl rfl ?_
  refine WL.next ?_
  refine WC.seq ?_
  refine WC.open_span_Reader (fun a2 c3 h4 => ?_)
  refine WC.sub (r := [(0, (.pointer (some ⟨g0, 0, none⟩)))]) ?_ ⟨rfl, trivial⟩
  obtain ⟨y5, e6, h⟩ := bnd h
  obtain ⟨⟨x10, x11, x12⟩, e13, h⟩ := bnd h
  refine WC.drawn mo (nthL [[], [0], [0, 1], [0, 1, 2], [], [4], [4, 5], [4, 5, 6], [0, 1, 2, 3, 4, 5, 6, 7], [0, 1, 2, 3, 4, 5, 6, 7, 8], [0, 1, 2, 3, 4, 5, 6, 7, 8, 9], [0, 1, 2, 3, 4, 5, 6, 7, 8, 9, 10], [0, 1, 2, 3, 4, 5, 6, 7, 8, 9, 10], [0, 1, 2, 3, 4, 5, 6, 7, 8, 9, 10], [0, 1, 2, 3, 4, 5, 6, 7, 8, 9, 10, 11], [0, 1, 2, 3, 4, 5, 6, 7, 8, 9, 10, 11, 12, 14], [0, 1, 2, 3, 4, 5, 6, 7, 8, 9, 10, 11, 12, 13, 14, 15]]) (nthL [[], [0], [1], [2], [], [4], [5], [6], [3, 7], [8], [9], [10], [10], [10], [11], [12], [13]]) (nthK [.val (.pointer (some ⟨g0, 0, none⟩)), .val (.pointer (some ⟨g0, 0, none⟩)), .val (.pointer (some ⟨g0, 0, none⟩)), .val (.slice a2 p0.b_.length c3), .val (.pointer (some ⟨g0, 0, none⟩)), .val (.pointer (some ⟨g0, 0, none⟩)), .val (.pointer (some ⟨g0, 1, none⟩)), .val (.int .i64 p0.at_), .imm y5, .val (.tuple #[(.int .i64 x10), (.int .i64 x11), (.bool x12)]), .val (.tuple #[(.int .i64 x10), (.int .i64 x11), (.bool x12)]), .val (.int .i64 x10), .val (.int .i64 x11), .val (.bool x12), .val (.int .i64 x10), .val (.int .i64 x11), .val (.bool x12)]) [⟨none, none, [3, 7], [], fun _ => bl g0 #[(.slice a2 p0.b_.length c3), (.int .i64 p0.at_), (.bool p0.bad_)] 59⟩] (by kernel_rfl) (by kernel_rfl) (by kernel_rfl) (H := G) rfl ⟨?_, ?_, ?_, ?_, ?_, ?_, ?_, ?_, ?_, ?_, ?_, ?_, ?_, ?_, ?_, ?_, ?_, trivial⟩ ?_
  · intro Q ρ I1 H hI1 hk hpost
    have hc := Mem.le.refl I1
    refine mv rfl rfl ?_
    refine WL.nil ?_
    exact hpost _ _ hc rfl _ (fun _ hd => by obtain rfl := Option.some.inj hd; exact ⟨rfl, trivial⟩)
  · intro Q ρ I1 H hI1 hk hpost
    obtain ⟨_, -⟩ := hk
    have hc := Mem.le.refl I1
    refine nc rfl rfl ?_
    refine WL.nil ?_
    exact hpost _ _ hc rfl _ (fun _ hd => by obtain rfl := Option.some.inj hd; exact ⟨rfl, trivial⟩)
  · intro Q ρ I1 H hI1 hk hpost
    obtain ⟨_, -⟩ := hk
    have hc := Mem.le.refl I1
    refine fa fl59_0 rfl rfl ?_
    refine WL.nil ?_
    exact hpost _ _ hc rfl _ (fun _ hd => by obtain rfl := Option.some.inj hd; exact ⟨rfl, trivial⟩)
  · intro Q ρ I1 H hI1 hk hpost
    obtain ⟨_, -⟩ := hk
    have hc := Mem.le.refl I1
    refine ld 0 na27 rfl rfl rfl rfl ?_
    refine WL.nil ?_
    exact hpost _ _ hc rfl _ (fun _ hd => by obtain rfl := Option.some.inj hd; exact ⟨rfl, trivial⟩)
  · intro Q ρ I1 H hI1 hk hpost
    have hc := Mem.le.refl I1
    refine mv rfl rfl ?_
    refine WL.nil ?_
    exact hpost _ _ hc rfl _ (fun _ hd => by obtain rfl := Option.some.inj hd; exact ⟨rfl, trivial⟩)
  · intro Q ρ I1 H hI1 hk hpost
    obtain ⟨_, -⟩ := hk
    have hc := Mem.le.refl I1
    refine nc rfl rfl ?_
    refine WL.nil ?_
    exact hpost _ _ hc rfl _ (fun _ hd => by obtain rfl := Option.some.inj hd; exact ⟨rfl, trivial⟩)
  · intro Q ρ I1 H hI1 hk hpost
    obtain ⟨_, -⟩ := hk
    have hc := Mem.le.refl I1
    refine fa fl59_1 rfl rfl ?_
    refine WL.nil ?_
    exact hpost _ _ hc rfl _ (fun _ hd => by obtain rfl := Option.some.inj hd; exact ⟨rfl, trivial⟩)
  · intro Q ρ I1 H hI1 hk hpost
    obtain ⟨_, -⟩ := hk
    have hc := Mem.le.refl I1
    refine ld 0 na3 rfl rfl rfl rfl ?_
    refine WL.nil ?_
    exact hpost _ _ hc rfl _ (fun _ hd => by obtain rfl := Option.some.inj hd; exact ⟨rfl, trivial⟩)
  · intro Q ρ I1 H hI1 hk hpost
    obtain ⟨_, _, -⟩ := hk
    replace h4 := h4.up hI1
    have hc := Mem.le.refl I1
    refine cti (kl := .i64) (kh := .i64) et27 rfl h4 (.inr ⟨_, rfl, rfl, rfl⟩) (.inl ⟨rfl, rfl, rfl⟩) e6 rfl (fun a7 c8 h9 => ?_)
    refine WL.nil ?_
    exact hpost _ _ hc h9 _ (fun _ hd => by obtain rfl := Option.some.inj hd; exact ⟨rfl, trivial⟩)
  · intro Q ρ I1 H hI1 hk hpost
    obtain ⟨k8, -⟩ := hk
    have hc := Mem.le.refl I1
    refine call cl40 rfl rfl (W40 e13 k8) (fun _ J14 _ hJ15 q16 => ?_)
    have hc := hc.trans hJ15
    replace k8 := k8.up hJ15
    obtain ⟨rfl, rfl⟩ := q16
    refine WL.nil ?_
    exact hpost _ _ hc rfl _ (fun _ hd => by obtain rfl := Option.some.inj hd; exact ⟨rfl, trivial⟩)
  · intro Q ρ I1 H hI1 hk hpost
    obtain ⟨_, -⟩ := hk
    have hc := Mem.le.refl I1
    refine mv rfl rfl ?_
    refine WL.nil ?_
    exact hpost _ _ hc rfl _ (fun _ hd => by obtain rfl := Option.some.inj hd; exact ⟨rfl, trivial⟩)
  · intro Q ρ I1 H hI1 hk hpost
    obtain ⟨_, -⟩ := hk
    have hc := Mem.le.refl I1
    refine ex rfl rfl rfl ?_
    refine WL.nil ?_
    exact hpost _ _ hc rfl _ (fun _ hd => by obtain rfl := Option.some.inj hd; exact ⟨rfl, trivial⟩)
  · intro Q ρ I1 H hI1 hk hpost
    obtain ⟨_, -⟩ := hk
    have hc := Mem.le.refl I1
    refine ex rfl rfl rfl ?_
    refine WL.nil ?_
    exact hpost _ _ hc rfl _ (fun _ hd => by obtain rfl := Option.some.inj hd; exact ⟨rfl, trivial⟩)
  · intro Q ρ I1 H hI1 hk hpost
    obtain ⟨_, -⟩ := hk
    have hc := Mem.le.refl I1
    refine ex rfl rfl rfl ?_
    refine WL.nil ?_
    exact hpost _ _ hc rfl _ (fun _ hd => by obtain rfl := Option.some.inj hd; exact ⟨rfl, trivial⟩)
  · intro Q ρ I1 H hI1 hk hpost
    obtain ⟨_, -⟩ := hk
    have hc := Mem.le.refl I1
    refine asg rfl rfl ?_
    refine WL.nil ?_
    exact hpost _ _ hc rfl _ (fun _ hd => by obtain rfl := Option.some.inj hd; exact ⟨rfl, trivial⟩)
  · intro Q ρ I1 H hI1 hk hpost
    obtain ⟨_, -⟩ := hk
    have hc := Mem.le.refl I1
    refine asg rfl rfl ?_
    refine WL.nil ?_
    exact hpost _ _ hc rfl _ (fun _ hd => by obtain rfl := Option.some.inj hd; exact ⟨rfl, trivial⟩)
  · intro Q ρ I1 H hI1 hk hpost
    obtain ⟨_, -⟩ := hk
    have hc := Mem.le.refl I1
    refine asg rfl rfl ?_
    refine WL.nil ?_
    exact hpost _ _ hc rfl _ (fun _ hd => by obtain rfl := Option.some.inj hd; exact ⟨rfl, trivial⟩)
  rintro ρ J17 hJ18 -
  refine WX.sub (r := [(0, (.pointer (some ⟨g0, 0, none⟩))), (3, (.int .i64 x10)), (4, (.int .i64 x11)), (5, (.bool x12))]) ?_ ⟨rfl, rfl, rfl, rfl, trivial⟩
  refine WX.is (H := bl g0 #[(.slice a2 p0.b_.length c3), (.int .i64 p0.at_), (.bool p0.bad_)] 59 :: G) rfl ?_
  have hI := hI.trans hJ18
  replace h4 := h4.up hJ18
  refine WX.then_ ?_
  refine WC.seq ?_
  refine WC.seq ?_
  obtain ⟨j23, hj23, h⟩ := bnd h
  refine WC.joinQ (σ := span_Reader × Bool) (fun (s21, x22) => [(0, (.pointer (some ⟨g0, 0, none⟩))), (3, (.int .i64 x10)), (4, (.int .i64 x11)), (27, (.bool x22))]) (fun (s21, x22) => Ob_span_Reader g0 s21 :: G) (fun (s21, x22) J => (s21, x22) = j23) (fun kj23 => ?_) ?_
  · skip
    have lj23 := Mem.le.refl J17
    refine WC.region ?_
    refine mv rfl rfl ?_
    refine nc rfl rfl ?_
    refine fa fl59_2 rfl rfl ?_
    refine ld 0 na4 rfl rfl rfl rfl ?_
    refine mv rfl rfl ?_
    rcases spl hj23 with ⟨k24, hj23⟩ | ⟨k24, hj23⟩
    · skip
      refine WL.rb 24 rfl (bt1 k24) ?_
      refine WL.no rfl rfl rfl rfl ?_
      refine WL.no rfl rfl rfl rfl ?_
      refine pkT rfl rfl rfl ?_
      refine WL.nil ?_
      refine WX.shut_span_Reader (⟨p0.b_, p0.at_, p0.bad_⟩ : span_Reader) h4 ?_
      exact (kj23 ⟨(⟨p0.b_, p0.at_, p0.bad_⟩ : span_Reader), true⟩ _ lj23 (Option.some.inj hj23)).sub ⟨rfl, rfl, rfl, rfl, trivial⟩
    refine WL.rb 24 rfl (bf1 k24) ?_
    refine WL.on rfl rfl ?_
    refine mv rfl rfl ?_
    refine WL.on rfl rfl ?_
    refine nt rfl rfl ?_
    refine pkF rfl rfl rfl ?_
    refine WL.nil ?_
    refine WX.shut_span_Reader (⟨p0.b_, p0.at_, p0.bad_⟩ : span_Reader) h4 ?_
    exact (kj23 ⟨(⟨p0.b_, p0.at_, p0.bad_⟩ : span_Reader), (!x12)⟩ _ lj23 (Option.some.inj hj23)).sub ⟨rfl, rfl, rfl, rfl, trivial⟩
  rintro ⟨s21, x22⟩ J25 hJ26 rfl
  have hI := hI.trans hJ26
  refine WX.then_ ?_
  refine WC.iteb rfl h (fun k27 h => ?_) (fun k27 h => ?_)
  · skip
    refine WC.seq ?_
    refine WC.region ?_
    refine mv rfl rfl ?_
    refine nc rfl rfl ?_
    refine fa fl59_2 rfl rfl ?_
    refine WL.open_span_Reader (fun a28 c29 h30 => ?_)
    refine st (C' := #[(.slice a28 s21.b_.length c29), (.int .i64 s21.at_), (.bool true)]) sz4 rfl rfl rfl rfl rfl ?_
    refine WL.next ?_
    refine WC.seq ?_
    refine WC.region ?_
    refine asg rfl rfl ?_
    refine WL.next ?_
    refine WC.ret ?_
    refine WX.then_ret ?_
    refine WX.shut_span_Reader (⟨s21.b_, s21.at_, true⟩ : span_Reader) h30 ?_
    cases h
    exact ret1 Try.results30 rfl hI ⟨rfl, rfl⟩
  refine WC.skip ?_
  refine WX.then_ ?_
  refine WC.seq ?_
  refine WC.region ?_
  refine mv rfl rfl ?_
  refine mv rfl rfl ?_
  refine nc rfl rfl ?_
  refine fa fl59_1 rfl rfl ?_
  refine WL.open_span_Reader (fun a31 c32 h33 => ?_)
  refine ld 0 na3 rfl rfl rfl rfl ?_
  refine mv rfl rfl ?_
  refine ad rfl rfl rfl ?_
  refine nc rfl rfl ?_
  refine fa fl59_1 rfl rfl ?_
  refine st (C' := #[(.slice a31 s21.b_.length c32), (.int .i64 (w64 (s21.at_ + x11))), (.bool s21.bad_)]) sz3 rfl rfl rfl rfl rfl ?_
  refine WL.next ?_
  refine WC.seq ?_
  refine WC.region ?_
  refine mv rfl rfl ?_
  refine asg rfl rfl ?_
  refine WL.next ?_
  refine WC.ret ?_
  refine WX.shut_span_Reader (⟨s21.b_, w64 (s21.at_ + x11), s21.bad_⟩ : span_Reader) h33 ?_
  cases h
  exact ret1 Try.results30 rfl hI ⟨rfl, rfl⟩
theorem W31 {I : Mem} {G : List Asn} {p0 : span_Reader} {p1 : Int} {r : (List UInt8) × span_Reader} (h : span_Reader_Bytes p0 p1 = some r) {g0 : Nat} :
    CallsS Try.prog 31 #[.pointer (some ⟨g0, 0, none⟩), .int .i64 p1] I (Ob_span_Reader g0 p0 :: G) (fun v J G' => ∃ ra0 rc0, v = .slice ra0 r.1.length rc0 ∧ OV 5 (.slice ra0 r.1.length rc0) r.1 :: Ob_span_Reader g0 (r.2) :: G = G') := by
  refine CallsS.enter Try.func31 rfl Try.ntmps31 rfl (fun w0 => ?_)
  have hI := Mem.le.refl I
  unfold span_Reader_Bytes at h
  refine WC.seq ?_
  refine WC.region ?_
  refine asg rfl rfl ?_
  refine WL.next ?_
  refine WC.seq ?_
  refine WC.open_span_Reader (fun a2 c3 h4 => ?_)
  refine WC.sub (r := [(0, (.pointer (some ⟨g0, 0, none⟩))), (1, (.int .i64 p1))]) ?_ ⟨rfl, rfl, trivial⟩
  obtain ⟨y5, e6, h⟩ := bnd h
  obtain ⟨⟨x10, x11, x12⟩, e13, h⟩ := bnd h
  refine WC.drawn mo (nthL [[], [0], [0, 1], [0, 1, 2], [], [4], [4, 5], [4, 5, 6], [0, 1, 2, 3, 4, 5, 6, 7], [0, 1, 2, 3, 4, 5, 6, 7, 8], [0, 1, 2, 3, 4, 5, 6, 7, 8, 9], [0, 1, 2, 3, 4, 5, 6, 7, 8, 9, 10], [0, 1, 2, 3, 4, 5, 6, 7, 8, 9, 10], [0, 1, 2, 3, 4, 5, 6, 7, 8, 9, 10], [0, 1, 2, 3, 4, 5, 6, 7, 8, 9, 10, 11], [0, 1, 2, 3, 4, 5, 6, 7, 8, 9, 10, 11, 12, 14], [0, 1, 2, 3, 4, 5, 6, 7, 8, 9, 10, 11, 12, 13, 14, 15]]) (nthL [[], [0], [1], [2], [], [4], [5], [6], [3, 7], [8], [9], [10], [10], [10], [11], [12], [13]]) (nthK [.val (.pointer (some ⟨g0, 0, none⟩)), .val (.pointer (some ⟨g0, 0, none⟩)), .val (.pointer (some ⟨g0, 0, none⟩)), .val (.slice a2 p0.b_.length c3), .val (.pointer (some ⟨g0, 0, none⟩)), .val (.pointer (some ⟨g0, 0, none⟩)), .val (.pointer (some ⟨g0, 1, none⟩)), .val (.int .i64 p0.at_), .imm y5, .val (.tuple #[(.int .i64 x10), (.int .i64 x11), (.bool x12)]), .val (.tuple #[(.int .i64 x10), (.int .i64 x11), (.bool x12)]), .val (.int .i64 x10), .val (.int .i64 x11), .val (.bool x12), .val (.int .i64 x10), .val (.int .i64 x11), .val (.bool x12)]) [⟨none, none, [3, 7], [], fun _ => bl g0 #[(.slice a2 p0.b_.length c3), (.int .i64 p0.at_), (.bool p0.bad_)] 59⟩] (by kernel_rfl) (by kernel_rfl) (by kernel_rfl) (H := G) rfl ⟨?_, ?_, ?_, ?_, ?_, ?_, ?_, ?_, ?_, ?_, ?_, ?_, ?_, ?_, ?_, ?_, ?_, trivial⟩ ?_
  · intro Q ρ I1 H hI1 hk hpost
    have hc := Mem.le.refl I1
    refine mv rfl rfl ?_
    refine WL.nil ?_
    exact hpost _ _ hc rfl _ (fun _ hd => by obtain rfl := Option.some.inj hd; exact ⟨rfl, trivial⟩)
  · intro Q ρ I1 H hI1 hk hpost
    obtain ⟨_, -⟩ := hk
    have hc := Mem.le.refl I1
    refine nc rfl rfl ?_
    refine WL.nil ?_
    exact hpost _ _ hc rfl _ (fun _ hd => by obtain rfl := Option.some.inj hd; exact ⟨rfl, trivial⟩)
  · intro Q ρ I1 H hI1 hk hpost
    obtain ⟨_, -⟩ := hk
    have hc := Mem.le.refl I1
    refine fa fl59_0 rfl rfl ?_
    refine WL.nil ?_
    exact hpost _ _ hc rfl _ (fun _ hd => by obtain rfl := Option.some.inj hd; exact ⟨rfl, trivial⟩)
  · intro Q ρ I1 H hI1 hk hpost
    obtain ⟨_, -⟩ := hk
    have hc := Mem.le.refl I1
    refine ld 0 na27 rfl rfl rfl rfl ?_
    refine WL.nil ?_
    exact hpost _ _ hc rfl _ (fun _ hd => by obtain rfl := Option.some.inj hd; exact ⟨rfl, trivial⟩)
  · intro Q ρ I1 H hI1 hk hpost
    have hc := Mem.le.refl I1
    refine mv rfl rfl ?_
    refine WL.nil ?_
    exact hpost _ _ hc rfl _ (fun _ hd => by obtain rfl := Option.some.inj hd; exact ⟨rfl, trivial⟩)
  · intro Q ρ I1 H hI1 hk hpost
    obtain ⟨_, -⟩ := hk
    have hc := Mem.le.refl I1
    refine nc rfl rfl ?_
    refine WL.nil ?_
    exact hpost _ _ hc rfl _ (fun _ hd => by obtain rfl := Option.some.inj hd; exact ⟨rfl, trivial⟩)
  · intro Q ρ I1 H hI1 hk hpost
    obtain ⟨_, -⟩ := hk
    have hc := Mem.le.refl I1
    refine fa fl59_1 rfl rfl ?_
    refine WL.nil ?_
    exact hpost _ _ hc rfl _ (fun _ hd => by obtain rfl := Option.some.inj hd; exact ⟨rfl, trivial⟩)
  · intro Q ρ I1 H hI1 hk hpost
    obtain ⟨_, -⟩ := hk
    have hc := Mem.le.refl I1
    refine ld 0 na3 rfl rfl rfl rfl ?_
    refine WL.nil ?_
    exact hpost _ _ hc rfl _ (fun _ hd => by obtain rfl := Option.some.inj hd; exact ⟨rfl, trivial⟩)
  · intro Q ρ I1 H hI1 hk hpost
    obtain ⟨_, _, -⟩ := hk
    replace h4 := h4.up hI1
    have hc := Mem.le.refl I1
    refine cti (kl := .i64) (kh := .i64) et27 rfl h4 (.inr ⟨_, rfl, rfl, rfl⟩) (.inl ⟨rfl, rfl, rfl⟩) e6 rfl (fun a7 c8 h9 => ?_)
    refine WL.nil ?_
    exact hpost _ _ hc h9 _ (fun _ hd => by obtain rfl := Option.some.inj hd; exact ⟨rfl, trivial⟩)
  · intro Q ρ I1 H hI1 hk hpost
    obtain ⟨k8, -⟩ := hk
    have hc := Mem.le.refl I1
    refine call cl40 rfl rfl (W40 e13 k8) (fun _ J14 _ hJ15 q16 => ?_)
    have hc := hc.trans hJ15
    replace k8 := k8.up hJ15
    obtain ⟨rfl, rfl⟩ := q16
    refine WL.nil ?_
    exact hpost _ _ hc rfl _ (fun _ hd => by obtain rfl := Option.some.inj hd; exact ⟨rfl, trivial⟩)
  · intro Q ρ I1 H hI1 hk hpost
    obtain ⟨_, -⟩ := hk
    have hc := Mem.le.refl I1
    refine mv rfl rfl ?_
    refine WL.nil ?_
    exact hpost _ _ hc rfl _ (fun _ hd => by obtain rfl := Option.some.inj hd; exact ⟨rfl, trivial⟩)
  · intro Q ρ I1 H hI1 hk hpost
    obtain ⟨_, -⟩ := hk
    have hc := Mem.le.refl I1
    refine ex rfl rfl rfl ?_
    refine WL.nil ?_
    exact hpost _ _ hc rfl _ (fun _ hd => by obtain rfl := Option.some.inj hd; exact ⟨rfl, trivial⟩)
  · intro Q ρ I1 H hI1 hk hpost
    obtain ⟨_, -⟩ := hk
    have hc := Mem.le.refl I1
    refine ex rfl rfl rfl ?_
    refine WL.nil ?_
    exact hpost _ _ hc rfl _ (fun _ hd => by obtain rfl := Option.some.inj hd; exact ⟨rfl, trivial⟩)
  · intro Q ρ I1 H hI1 hk hpost
    obtain ⟨_, -⟩ := hk
    have hc := Mem.le.refl I1
    refine ex rfl rfl rfl ?_
    refine WL.nil ?_
    exact hpost _ _ hc rfl _ (fun _ hd => by obtain rfl := Option.some.inj hd; exact ⟨rfl, trivial⟩)
  · intro Q ρ I1 H hI1 hk hpost
    obtain ⟨_, -⟩ := hk
    have hc := Mem.le.refl I1
    refine asg rfl rfl ?_
    refine WL.nil ?_
    exact hpost _ _ hc rfl _ (fun _ hd => by obtain rfl := Option.some.inj hd; exact ⟨rfl, trivial⟩)
  · intro Q ρ I1 H hI1 hk hpost
    obtain ⟨_, -⟩ := hk
    have hc := Mem.le.refl I1
    refine asg rfl rfl ?_
    refine WL.nil ?_
    exact hpost _ _ hc rfl _ (fun _ hd => by obtain rfl := Option.some.inj hd; exact ⟨rfl, trivial⟩)
  · intro Q ρ I1 H hI1 hk hpost
    obtain ⟨_, -⟩ := hk
    have hc := Mem.le.refl I1
    refine asg rfl rfl ?_
    refine WL.nil ?_
    exact hpost _ _ hc rfl _ (fun _ hd => by obtain rfl := Option.some.inj hd; exact ⟨rfl, trivial⟩)
  rintro ρ J17 hJ18 -
  refine WX.sub (r := [(0, (.pointer (some ⟨g0, 0, none⟩))), (1, (.int .i64 p1)), (5, (.int .i64 x10)), (6, (.int .i64 x11)), (7, (.bool x12))]) ?_ ⟨rfl, rfl, rfl, rfl, rfl, trivial⟩
  refine WX.is (H := bl g0 #[(.slice a2 p0.b_.length c3), (.int .i64 p0.at_), (.bool p0.bad_)] 59 :: G) rfl ?_
  have hI := hI.trans hJ18
  replace h4 := h4.up hJ18
  refine WX.then_ ?_
  refine WC.seq ?_
  refine WC.seq ?_
  obtain ⟨j39, hj39, h⟩ := bnd h
  refine WC.joinQ (σ := span_Reader × Bool) (fun (s37, x38) => [(0, (.pointer (some ⟨g0, 0, none⟩))), (5, (.int .i64 x10)), (6, (.int .i64 x11)), (43, (.bool x38))]) (fun (s37, x38) => Ob_span_Reader g0 s37 :: G) (fun (s37, x38) J => (s37, x38) = j39) (fun kj39 => ?_) ?_
  · skip
    have lj39 := Mem.le.refl J17
    refine WC.region ?_
    refine mv rfl rfl ?_
    refine nc rfl rfl ?_
    refine fa fl59_2 rfl rfl ?_
    refine ld 0 na4 rfl rfl rfl rfl ?_
    refine mv rfl rfl ?_
    rcases spl hj39 with ⟨k40, hj39⟩ | ⟨k40, hj39⟩
    · skip
      refine WL.rb 27 rfl (bt1 k40) ?_
      refine WL.no rfl rfl rfl rfl ?_
      refine WL.no rfl rfl rfl rfl ?_
      refine pkT rfl rfl rfl ?_
      refine mv rfl rfl ?_
      refine WL.no rfl rfl rfl rfl ?_
      refine WL.no rfl rfl rfl rfl ?_
      refine WL.no rfl rfl rfl rfl ?_
      refine pkT rfl rfl rfl ?_
      refine mv rfl rfl ?_
      refine WL.no rfl rfl rfl rfl ?_
      refine WL.no rfl rfl rfl rfl ?_
      refine WL.no rfl rfl rfl rfl ?_
      refine WL.no rfl rfl rfl rfl ?_
      refine WL.no rfl rfl rfl rfl ?_
      refine WL.no rfl rfl rfl rfl ?_
      refine pkT rfl rfl rfl ?_
      refine WL.nil ?_
      refine WX.shut_span_Reader (⟨p0.b_, p0.at_, p0.bad_⟩ : span_Reader) h4 ?_
      exact (kj39 ⟨(⟨p0.b_, p0.at_, p0.bad_⟩ : span_Reader), true⟩ _ lj39 (Option.some.inj hj39)).sub ⟨rfl, rfl, rfl, rfl, trivial⟩
    refine WL.rb 27 rfl (bf1 k40) ?_
    refine WL.on rfl rfl ?_
    refine mv rfl rfl ?_
    refine WL.on rfl rfl ?_
    refine nt rfl rfl ?_
    refine pkF rfl rfl rfl ?_
    refine mv rfl rfl ?_
    rcases spl hj39 with ⟨k41, hj39⟩ | ⟨k41, hj39⟩
    · skip
      refine WL.rb 31 rfl (bt1n k41) ?_
      refine WL.on rfl rfl ?_
      refine mv rfl rfl ?_
      refine WL.on rfl rfl ?_
      refine mv rfl rfl ?_
      refine WL.on rfl rfl ?_
      refine gt rfl rfl rfl ?_
      refine pkF rfl rfl rfl ?_
      refine mv rfl rfl ?_
      rcases spl hj39 with ⟨k42, hj39⟩ | ⟨k42, hj39⟩
      · skip
        refine WL.rb 36 rfl (bT k42) ?_
        refine WL.no rfl rfl rfl rfl ?_
        refine WL.no rfl rfl rfl rfl ?_
        refine WL.no rfl rfl rfl rfl ?_
        refine WL.no rfl rfl rfl rfl ?_
        refine WL.no rfl rfl rfl rfl ?_
        refine WL.no rfl rfl rfl rfl ?_
        refine pkT rfl rfl rfl ?_
        refine WL.nil ?_
        refine WX.shut_span_Reader (⟨p0.b_, p0.at_, p0.bad_⟩ : span_Reader) h4 ?_
        exact (kj39 ⟨(⟨p0.b_, p0.at_, p0.bad_⟩ : span_Reader), true⟩ _ lj39 (Option.some.inj hj39)).sub ⟨rfl, rfl, rfl, rfl, trivial⟩
      refine WL.rb 36 rfl (bF k42) ?_
      refine WL.on rfl rfl ?_
      refine mv rfl rfl ?_
      refine WL.on rfl rfl ?_
      refine mv rfl rfl ?_
      refine WL.on rfl rfl ?_
      refine WL.shut_span_Reader (⟨p0.b_, p0.at_, p0.bad_⟩ : span_Reader) h4 ?_
      obtain ⟨⟨x43, s44⟩, e45, hj39⟩ := bnd hj39
      refine call cl25 rfl rfl (W25 e45) (fun _ J46 _ hJ47 q48 => ?_)
      have hI := hI.trans hJ47
      have lj39 := lj39.trans hJ47
      obtain ⟨rfl, rfl⟩ := q48
      refine WL.on rfl rfl ?_
      refine mv rfl rfl ?_
      refine WL.on rfl rfl ?_
      refine su rfl rfl rfl ?_
      refine WL.on rfl rfl ?_
      refine gt rfl rfl rfl ?_
      refine pkF rfl rfl rfl ?_
      refine WL.nil ?_
      exact (kj39 ⟨s44, (decide ((w64 (x43 - x11)) < x10))⟩ _ lj39 (Option.some.inj hj39)).sub ⟨rfl, rfl, rfl, rfl, trivial⟩
    refine WL.rb 31 rfl (bf1n k41) ?_
    refine WL.no rfl rfl rfl rfl ?_
    refine WL.no rfl rfl rfl rfl ?_
    refine WL.no rfl rfl rfl rfl ?_
    refine pkT rfl rfl rfl ?_
    refine mv rfl rfl ?_
    refine WL.no rfl rfl rfl rfl ?_
    refine WL.no rfl rfl rfl rfl ?_
    refine WL.no rfl rfl rfl rfl ?_
    refine WL.no rfl rfl rfl rfl ?_
    refine WL.no rfl rfl rfl rfl ?_
    refine WL.no rfl rfl rfl rfl ?_
    refine pkT rfl rfl rfl ?_
    refine WL.nil ?_
    refine WX.shut_span_Reader (⟨p0.b_, p0.at_, p0.bad_⟩ : span_Reader) h4 ?_
    exact (kj39 ⟨(⟨p0.b_, p0.at_, p0.bad_⟩ : span_Reader), true⟩ _ lj39 (Option.some.inj hj39)).sub ⟨rfl, rfl, rfl, rfl, trivial⟩
  rintro ⟨s37, x38⟩ J49 hJ50 rfl
  have hI := hI.trans hJ50
  refine WX.then_ ?_
  refine WC.iteb rfl h (fun k51 h => ?_) (fun k51 h => ?_)
  · skip
    refine WC.seq ?_
    refine WC.region ?_
    refine mv rfl rfl ?_
    refine nc rfl rfl ?_
    refine fa fl59_2 rfl rfl ?_
    refine WL.open_span_Reader (fun a52 c53 h54 => ?_)
    refine st (C' := #[(.slice a52 s37.b_.length c53), (.int .i64 s37.at_), (.bool true)]) sz4 rfl rfl rfl rfl rfl ?_
    refine WL.next ?_
    refine WC.seq ?_
    refine WC.region ?_
    refine asg rfl rfl ?_
    refine WL.next ?_
    refine WC.ret ?_
    refine WX.then_ret ?_
    refine WX.own_nil UInt8 5 ?_
    refine WX.front 1 ?_
    refine WX.shut_span_Reader (⟨s37.b_, s37.at_, true⟩ : span_Reader) h54 ?_
    refine WX.front 1 ?_
    cases h
    exact ret1 Try.results31 rfl hI ⟨_, _, rfl, rfl⟩
  refine WC.skip ?_
  refine WX.then_ ?_
  refine WC.seq ?_
  refine WC.region ?_
  refine mv rfl rfl ?_
  refine nc rfl rfl ?_
  refine fa fl59_1 rfl rfl ?_
  refine WL.open_span_Reader (fun a56 c57 h58 => ?_)
  refine ld 0 na3 rfl rfl rfl rfl ?_
  refine mv rfl rfl ?_
  refine ad rfl rfl rfl ?_
  refine asg rfl rfl ?_
  refine WL.next ?_
  refine WC.seq ?_
  refine WC.region ?_
  refine mv rfl rfl ?_
  refine mv rfl rfl ?_
  refine mv rfl rfl ?_
  refine ad rfl rfl rfl ?_
  refine nc rfl rfl ?_
  refine fa fl59_1 rfl rfl ?_
  refine st (C' := #[(.slice a56 s37.b_.length c57), (.int .i64 (w64 ((w64 (s37.at_ + x11)) + x10))), (.bool s37.bad_)]) sz3 rfl rfl rfl rfl rfl ?_
  refine WL.next ?_
  refine WC.seq ?_
  refine WC.sub (r := [(0, (.pointer (some ⟨g0, 0, none⟩))), (8, (.int .i64 (w64 (s37.at_ + x11))))]) ?_ ⟨rfl, rfl, trivial⟩
  obtain ⟨y59, e60, h⟩ := bnd h
  obtain ⟨x64, e65, h⟩ := bnd h
  refine WC.drawn mo (nthL [[], [0], [0, 1], [0, 1, 2], [], [], [5], [5, 6], [5, 6, 7], [0, 1, 2, 3, 4, 5, 6, 7, 8], [0, 1, 2, 3, 4, 5, 6, 7, 8, 9], [0, 1, 2, 3, 4, 5, 6, 7, 8, 9, 10]]) (nthL [[], [0], [1], [2], [], [], [5], [6], [7], [3, 4, 8], [9], [10]]) (nthK [.val (.pointer (some ⟨g0, 0, none⟩)), .val (.pointer (some ⟨g0, 0, none⟩)), .val (.pointer (some ⟨g0, 0, none⟩)), .val (.slice a56 s37.b_.length c57), .val (.int .i64 (w64 (s37.at_ + x11))), .val (.pointer (some ⟨g0, 0, none⟩)), .val (.pointer (some ⟨g0, 0, none⟩)), .val (.pointer (some ⟨g0, 1, none⟩)), .val (.int .i64 (w64 ((w64 (s37.at_ + x11)) + x10))), .imm y59, .any, .any]) [⟨none, none, [3, 8], [], fun _ => bl g0 #[(.slice a56 s37.b_.length c57), (.int .i64 (w64 ((w64 (s37.at_ + x11)) + x10))), (.bool s37.bad_)] 59⟩, ⟨(some 10), (some 11), [], [10], fun l => OV 5 (vget l 0) x64⟩, ⟨(some 11), none, [], [11], fun l => OV 5 (vget l 0) x64⟩] (by kernel_rfl) (by kernel_rfl) (by kernel_rfl) (H := G) rfl ⟨?_, ?_, ?_, ?_, ?_, ?_, ?_, ?_, ?_, ?_, ?_, ?_, trivial⟩ ?_
  · intro Q ρ I1 H hI1 hk hpost
    have hc := Mem.le.refl I1
    refine mv rfl rfl ?_
    refine WL.nil ?_
    exact hpost _ _ hc rfl _ (fun _ hd => by obtain rfl := Option.some.inj hd; exact ⟨rfl, trivial⟩)
  · intro Q ρ I1 H hI1 hk hpost
    obtain ⟨_, -⟩ := hk
    have hc := Mem.le.refl I1
    refine nc rfl rfl ?_
    refine WL.nil ?_
    exact hpost _ _ hc rfl _ (fun _ hd => by obtain rfl := Option.some.inj hd; exact ⟨rfl, trivial⟩)
  · intro Q ρ I1 H hI1 hk hpost
    obtain ⟨_, -⟩ := hk
    have hc := Mem.le.refl I1
    refine fa fl59_0 rfl rfl ?_
    refine WL.nil ?_
    exact hpost _ _ hc rfl _ (fun _ hd => by obtain rfl := Option.some.inj hd; exact ⟨rfl, trivial⟩)
  · intro Q ρ I1 H hI1 hk hpost
    obtain ⟨_, -⟩ := hk
    have hc := Mem.le.refl I1
    refine ld 0 na27 rfl rfl rfl rfl ?_
    refine WL.nil ?_
    exact hpost _ _ hc rfl _ (fun _ hd => by obtain rfl := Option.some.inj hd; exact ⟨rfl, trivial⟩)
  · intro Q ρ I1 H hI1 hk hpost
    have hc := Mem.le.refl I1
    refine mv rfl rfl ?_
    refine WL.nil ?_
    exact hpost _ _ hc rfl _ (fun _ hd => by obtain rfl := Option.some.inj hd; exact ⟨rfl, trivial⟩)
  · intro Q ρ I1 H hI1 hk hpost
    have hc := Mem.le.refl I1
    refine mv rfl rfl ?_
    refine WL.nil ?_
    exact hpost _ _ hc rfl _ (fun _ hd => by obtain rfl := Option.some.inj hd; exact ⟨rfl, trivial⟩)
  · intro Q ρ I1 H hI1 hk hpost
    obtain ⟨_, -⟩ := hk
    have hc := Mem.le.refl I1
    refine nc rfl rfl ?_
    refine WL.nil ?_
    exact hpost _ _ hc rfl _ (fun _ hd => by obtain rfl := Option.some.inj hd; exact ⟨rfl, trivial⟩)
  · intro Q ρ I1 H hI1 hk hpost
    obtain ⟨_, -⟩ := hk
    have hc := Mem.le.refl I1
    refine fa fl59_1 rfl rfl ?_
    refine WL.nil ?_
    exact hpost _ _ hc rfl _ (fun _ hd => by obtain rfl := Option.some.inj hd; exact ⟨rfl, trivial⟩)
  · intro Q ρ I1 H hI1 hk hpost
    obtain ⟨_, -⟩ := hk
    have hc := Mem.le.refl I1
    refine ld 0 na3 rfl rfl rfl rfl ?_
    refine WL.nil ?_
    exact hpost _ _ hc rfl _ (fun _ hd => by obtain rfl := Option.some.inj hd; exact ⟨rfl, trivial⟩)
  · intro Q ρ I1 H hI1 hk hpost
    obtain ⟨_, _, _, -⟩ := hk
    replace h58 := h58.up hI1
    have hc := Mem.le.refl I1
    refine cti (kl := .i64) (kh := .i64) et27 rfl h58 (.inr ⟨_, rfl, rfl, rfl⟩) (.inr ⟨_, rfl, rfl, rfl⟩) e60 rfl (fun a61 c62 h63 => ?_)
    refine WL.nil ?_
    exact hpost _ _ hc h63 _ (fun _ hd => by obtain rfl := Option.some.inj hd; exact ⟨rfl, trivial⟩)
  · intro Q ρ I1 H hI1 hk hpost
    obtain ⟨k9, -⟩ := hk
    have hc := Mem.le.refl I1
    refine call cl18 rfl rfl (W18 e65 k9) (fun _ J66 _ hJ67 q68 => ?_)
    have hc := hc.trans hJ67
    replace k9 := k9.up hJ67
    obtain ⟨a69, c70, rfl, rfl⟩ := q68
    refine WL.nil ?_
    exact hpost _ _ hc trivial _ (fun _ hd => by obtain rfl := Option.some.inj hd; exact ⟨rfl, trivial⟩)
  · intro Q ρ I1 H hI1 hk hpost
    obtain ⟨_, -⟩ := hk
    have hc := Mem.le.refl I1
    refine asg rfl rfl ?_
    refine WL.nil ?_
    exact hpost _ _ hc trivial _ (fun _ hd => by obtain rfl := Option.some.inj hd; exact ⟨rfl, trivial⟩)
  rintro ρ J72 hJ73 -
  refine WX.sub (r := [(4, (ρ 11))]) ?_ ⟨rfl, trivial⟩
  refine WX.is (H := bl g0 #[(.slice a56 s37.b_.length c57), (.int .i64 (w64 ((w64 (s37.at_ + x11)) + x10))), (.bool s37.bad_)] 59 :: OV 5 (ρ 11) x64 :: G) rfl ?_
  have hI := hI.trans hJ73
  replace h58 := h58.up hJ73
  refine WX.front 1 ?_
  generalize ρ 11 = uv74 at *; refine WX.hd (fun a75 c76 e => ?_); subst e
  refine WX.then_ ?_
  refine WC.ret ?_
  refine WX.front 1 ?_
  refine WX.shut_span_Reader (⟨s37.b_, w64 ((w64 (s37.at_ + x11)) + x10), s37.bad_⟩ : span_Reader) h58 ?_
  refine WX.front 1 ?_
  cases h
  exact ret1 Try.results31 rfl hI ⟨_, _, rfl, rfl⟩
theorem W32 {I : Mem} {G : List Asn} {p0 : span_Reader} {r : Bool × span_Reader} (h : span_Reader_Bad p0 = some r) {g0 : Nat} :
    CallsS Try.prog 32 #[.pointer (some ⟨g0, 0, none⟩)] I (Ob_span_Reader g0 p0 :: G) (fun v J G' => v = .bool r.1 ∧ Ob_span_Reader g0 (r.2) :: G = G') := by
  refine CallsS.enter Try.func32 rfl Try.ntmps32 rfl (fun w0 => ?_)
  have hI := Mem.le.refl I
  unfold span_Reader_Bad at h
  refine WC.seq ?_
  refine WC.region ?_
  refine asg rfl rfl ?_
  refine WL.next ?_
  refine WC.seq ?_
  refine WC.region ?_
  refine mv rfl rfl ?_
  refine nc rfl rfl ?_
  refine fa fl59_2 rfl rfl ?_
  refine WL.open_span_Reader (fun a2 c3 h4 => ?_)
  refine ld 0 na4 rfl rfl rfl rfl ?_
  refine asg rfl rfl ?_
  refine WL.next ?_
  refine WC.ret ?_
  refine WX.shut_span_Reader (⟨p0.b_, p0.at_, p0.bad_⟩ : span_Reader) h4 ?_
  cases h
  exact ret1 Try.results32 rfl hI ⟨rfl, rfl⟩
theorem W24 {I : Mem} {G : List Asn} {p0 : span_Reader} {r : api_Packet × Bool × span_Reader} (h : packet_Take p0 = some r) {g0 : Nat} :
    CallsS Try.prog 24 #[.pointer (some ⟨g0, 0, none⟩)] I (Ob_span_Reader g0 p0 :: G) (fun v J G' => ∃ ra0_5 rc0_5, v = .tuple #[.agg #[.int .i64 r.1.Kind, .int .i64 r.1.Path, .int .i64 r.1.Number, .int .i64 r.1.Of, .int .i64 r.1.From, .slice ra0_5 r.1.Data.length rc0_5, .bool r.1.Fin, .int .i64 r.1.Seen, .int .i64 r.1.Limit], .bool r.2.1] ∧ IV J (.slice ra0_5 r.1.Data.length rc0_5) r.1.Data ∧ Ob_span_Reader g0 (r.2.2) :: G = G') := by
  refine CallsS.enter Try.func24 rfl Try.ntmps24 rfl (fun w0 => ?_)
  have hI := Mem.le.refl I
  unfold packet_Take at h
  refine WC.seq ?_
  refine WC.region ?_
  refine al Try.zeroValue29 rfl (fun g2 => ?_)
  refine asg rfl rfl ?_
  refine WL.next ?_
  refine WC.seq ?_
  refine WC.region ?_
  refine mv rfl rfl ?_
  refine WL.front 1 ?_
  obtain ⟨⟨x4, s5⟩, e6, h⟩ := bnd h
  refine call cl29 rfl rfl (W29 e6) (fun _ J7 _ hJ8 q9 => ?_)
  have hI := hI.trans hJ8
  obtain ⟨rfl, rfl⟩ := q9
  refine cv8i Try.underlying5 Try.underlying3 rfl rfl ?_
  refine mv rfl rfl ?_
  obtain ⟨⟨x10, s11⟩, e12, h⟩ := bnd h
  refine call cl30 rfl rfl (W30 e12) (fun _ J13 _ hJ14 q15 => ?_)
  have hI := hI.trans hJ14
  obtain ⟨rfl, rfl⟩ := q15
  refine mv rfl rfl ?_
  obtain ⟨⟨x16, s17⟩, e18, h⟩ := bnd h
  refine call cl30 rfl rfl (W30 e18) (fun _ J19 _ hJ20 q21 => ?_)
  have hI := hI.trans hJ20
  obtain ⟨rfl, rfl⟩ := q21
  refine bu bt29 rfl rfl rfl ?_
  refine al Try.zeroValue29 rfl (fun g22 => ?_)
  refine sta (C' := #[(.int .i64 (x4.toNat : Int)), (.int .i64 x10), (.int .i64 x16), (.int .i64 0), (.int .i64 0), (.slice none 0 0), (.bool false), (.int .i64 0), (.int .i64 0)]) sz29 rfl rfl rfl rfl rfl rfl ?_
  refine WL.next ?_
  refine WC.seq ?_
  refine WC.seq ?_
  refine WC.region ?_
  refine fa fl29_0 rfl rfl ?_
  refine ld 0 na3 rfl rfl rfl rfl ?_
  refine WL.next ?_
  refine WC.block ?_
  refine WC.seq ?_
  refine WC.region ?_
  refine eq rfl rfl rfl ?_
  refine asg rfl rfl ?_
  refine WL.next ?_
  refine WC.ite rfl h (fun k24 h => ?_) (fun k24 h => ?_)
  · skip
    refine WC.region ?_
    refine mv rfl rfl ?_
    refine WL.front 1 ?_
    obtain ⟨⟨x25, s26⟩, e27, h⟩ := bnd h
    refine call cl30 rfl rfl (W30 e27) (fun _ J28 _ hJ29 q30 => ?_)
    have hI := hI.trans hJ29
    obtain ⟨rfl, rfl⟩ := q30
    refine fa fl29_3 rfl rfl ?_
    refine WL.front 1 ?_
    refine st (C' := #[(.int .i64 (x4.toNat : Int)), (.int .i64 x10), (.int .i64 x16), (.int .i64 x25), (.int .i64 0), (.slice none 0 0), (.bool false), (.int .i64 0), (.int .i64 0)]) sz3 rfl rfl rfl rfl rfl ?_
    refine WL.nil ?_
    refine WX.block_normal ?_
    refine WX.then_ ?_
    refine WC.seq ?_
    refine WC.seq ?_
    refine WC.region ?_
    refine mv rfl rfl ?_
    refine WL.front 1 ?_
    obtain ⟨⟨x31, s32⟩, e33, h⟩ := bnd h
    refine call cl32 rfl rfl (W32 e33) (fun _ J34 _ hJ35 q36 => ?_)
    have hI := hI.trans hJ35
    obtain ⟨rfl, rfl⟩ := q36
    refine mv rfl rfl ?_
    rcases spl h with ⟨k37, h⟩ | ⟨k37, h⟩
    · skip
      refine WL.rb 50 rfl (bt1 k37) ?_
      refine WL.no rfl rfl rfl rfl ?_
      refine WL.no rfl rfl rfl rfl ?_
      refine WL.no rfl rfl rfl rfl ?_
      refine pkT rfl rfl rfl ?_
      refine WL.next ?_
      refine WC.cond rfl (fun _ => ?_) (fun k => by cases k)
      refine WC.seq ?_
      refine WC.region ?_
      refine bu bt29 rfl rfl rfl ?_
      refine WL.front 2 ?_
      refine sta (C' := #[(.int .i64 0), (.int .i64 0), (.int .i64 0), (.int .i64 0), (.int .i64 0), (.slice none 0 0), (.bool false), (.int .i64 0), (.int .i64 0)]) sz29 rfl rfl rfl rfl rfl rfl ?_
      refine asg rfl rfl ?_
      refine WL.del 2 ?_
      refine WL.next ?_
      refine WC.ret ?_
      refine WX.then_ret ?_
      refine WX.front 1 ?_
      cases h
      exact retC2x Try.results24 (fun a w ha hw => ⟨RC.cellA ha hw 1 rfl ya29 rfl rfl, RC.tmp ha rfl⟩) (fun w hw => hw |>.del 1) hI ⟨_, _, rfl, (IV.nil _ : IV _ _ ([] : List UInt8)), rfl⟩
    refine WL.rb 50 rfl (bf1 k37) ?_
    refine WL.on rfl rfl ?_
    refine lda 1 ya29 rfl rfl rfl rfl rfl ?_
    refine WL.on rfl rfl ?_
    obtain ⟨x38, e39, h⟩ := bnd h
    refine call cl33 rfl rfl (W33 e39 (IV.nil _ : IV _ _ ([] : List UInt8))) (fun _ J40 _ hJ41 q42 => ?_)
    have hI := hI.trans hJ41
    obtain ⟨rfl, rfl⟩ := q42
    refine WL.on rfl rfl ?_
    refine ne rfl rfl rfl ?_
    refine pkF rfl rfl rfl ?_
    refine WL.next ?_
    refine WC.ite rfl h (fun k43 h => ?_) (fun k43 h => ?_)
    · skip
      refine WC.seq ?_
      refine WC.region ?_
      refine bu bt29 rfl rfl rfl ?_
      refine WL.front 2 ?_
      refine sta (C' := #[(.int .i64 0), (.int .i64 0), (.int .i64 0), (.int .i64 0), (.int .i64 0), (.slice none 0 0), (.bool false), (.int .i64 0), (.int .i64 0)]) sz29 rfl rfl rfl rfl rfl rfl ?_
      refine asg rfl rfl ?_
      refine WL.del 2 ?_
      refine WL.next ?_
      refine WC.ret ?_
      refine WX.then_ret ?_
      refine WX.front 1 ?_
      cases h
      exact retC2x Try.results24 (fun a w ha hw => ⟨RC.cellA ha hw 1 rfl ya29 rfl rfl, RC.tmp ha rfl⟩) (fun w hw => hw |>.del 1) hI ⟨_, _, rfl, (IV.nil _ : IV _ _ ([] : List UInt8)), rfl⟩
    refine WC.skip ?_
    refine WX.then_ ?_
    refine WC.seq ?_
    refine WC.region ?_
    refine lda 1 ya29 rfl rfl rfl rfl rfl ?_
    refine WL.front 2 ?_
    refine sta (C' := #[(.int .i64 (x4.toNat : Int)), (.int .i64 x10), (.int .i64 x16), (.int .i64 x25), (.int .i64 0), (.slice none 0 0), (.bool false), (.int .i64 0), (.int .i64 0)]) sz29 rfl rfl rfl rfl rfl rfl ?_
    refine asg rfl rfl ?_
    refine WL.del 2 ?_
    refine WL.next ?_
    refine WC.ret ?_
    refine WX.front 1 ?_
    cases h
    exact retC2x Try.results24 (fun a w ha hw => ⟨RC.cellA ha hw 1 rfl ya29 rfl rfl, RC.tmp ha rfl⟩) (fun w hw => hw |>.del 1) hI ⟨_, _, rfl, (IV.nil _ : IV _ _ ([] : List UInt8)), rfl⟩
  refine WC.seq ?_
  refine WC.region ?_
  refine eq rfl rfl rfl ?_
  refine asg rfl rfl ?_
  refine WL.next ?_
  refine WC.ite rfl h (fun k44 h => ?_) (fun k44 h => ?_)
  · skip
    refine WC.seq ?_
    refine WC.region ?_
    refine mv rfl rfl ?_
    refine WL.front 1 ?_
    obtain ⟨⟨x45, s46⟩, e47, h⟩ := bnd h
    refine call cl30 rfl rfl (W30 e47) (fun _ J48 _ hJ49 q50 => ?_)
    have hI := hI.trans hJ49
    obtain ⟨rfl, rfl⟩ := q50
    refine mv rfl rfl ?_
    obtain ⟨⟨x51, s52⟩, e53, h⟩ := bnd h
    refine call cl31 rfl rfl (W31 e53) (fun _ J54 _ hJ55 q56 => ?_)
    have hI := hI.trans hJ55
    obtain ⟨a57, c58, rfl, rfl⟩ := q56
    refine fa fl29_4 rfl rfl ?_
    refine WL.front 2 ?_
    refine st (C' := #[(.int .i64 (x4.toNat : Int)), (.int .i64 x10), (.int .i64 x16), (.int .i64 0), (.int .i64 x45), (.slice none 0 0), (.bool false), (.int .i64 0), (.int .i64 0)]) sz3 rfl rfl rfl rfl rfl ?_
    refine fa fl29_5 rfl rfl ?_
    refine st (C' := #[(.int .i64 (x4.toNat : Int)), (.int .i64 x10), (.int .i64 x16), (.int .i64 0), (.int .i64 x45), (.slice a57 x51.length c58), (.bool false), (.int .i64 0), (.int .i64 0)]) sz27 rfl rfl rfl rfl rfl ?_
    refine WL.next ?_
    refine WC.seq ?_
    refine WC.region ?_
    refine mv rfl rfl ?_
    refine WL.front 2 ?_
    obtain ⟨⟨x60, s61⟩, e62, h⟩ := bnd h
    refine call cl29 rfl rfl (W29 e62) (fun _ J63 _ hJ64 q65 => ?_)
    have hI := hI.trans hJ64
    obtain ⟨rfl, rfl⟩ := q65
    refine asg rfl rfl ?_
    refine WL.next ?_
    refine WC.seq ?_
    refine WC.seq ?_
    refine WC.region ?_
    refine mv rfl rfl ?_
    refine gt rfl rfl rfl ?_
    refine WL.next ?_
    refine WC.ite rfl h (fun k66 h => ?_) (fun k66 h => ?_)
    · skip
      refine WC.seq ?_
      refine WC.region ?_
      refine bu bt29 rfl rfl rfl ?_
      refine WL.front 3 ?_
      refine sta (C' := #[(.int .i64 0), (.int .i64 0), (.int .i64 0), (.int .i64 0), (.int .i64 0), (.slice none 0 0), (.bool false), (.int .i64 0), (.int .i64 0)]) sz29 rfl rfl rfl rfl rfl rfl ?_
      refine asg rfl rfl ?_
      refine WL.del 2 ?_
      refine WL.next ?_
      refine WC.ret ?_
      refine WX.then_ret ?_
      refine WX.block_ret ?_
      refine WX.then_ret ?_
      refine WX.front 1 ?_
      cases h
      exact retC2x Try.results24 (fun a w ha hw => ⟨RC.cellA ha hw 1 rfl ya29 rfl rfl, RC.tmp ha rfl⟩) (fun w hw => hw |>.del 1 |>.del 1) hI ⟨_, _, rfl, (IV.nil _ : IV _ _ ([] : List UInt8)), rfl⟩
    refine WC.skip ?_
    refine WX.then_ ?_
    refine WC.region ?_
    refine mv rfl rfl ?_
    refine eq rfl rfl rfl ?_
    refine fa fl29_6 rfl rfl ?_
    refine WL.front 1 ?_
    refine st (C' := #[(.int .i64 (x4.toNat : Int)), (.int .i64 x10), (.int .i64 x16), (.int .i64 0), (.int .i64 x45), (.slice a57 x51.length c58), (.bool (decide ((x60.toNat : Int) = 1))), (.int .i64 0), (.int .i64 0)]) sz4 rfl rfl rfl rfl rfl ?_
    refine WL.nil ?_
    refine WX.block_normal ?_
    refine WX.then_ ?_
    refine WC.seq ?_
    refine WC.seq ?_
    refine WC.region ?_
    refine mv rfl rfl ?_
    refine WL.front 1 ?_
    obtain ⟨⟨x67, s68⟩, e69, h⟩ := bnd h
    refine call cl32 rfl rfl (W32 e69) (fun _ J70 _ hJ71 q72 => ?_)
    have hI := hI.trans hJ71
    obtain ⟨rfl, rfl⟩ := q72
    refine mv rfl rfl ?_
    rcases spl h with ⟨k73, h⟩ | ⟨k73, h⟩
    · skip
      refine WL.rb 50 rfl (bt1 k73) ?_
      refine WL.no rfl rfl rfl rfl ?_
      refine WL.no rfl rfl rfl rfl ?_
      refine WL.no rfl rfl rfl rfl ?_
      refine pkT rfl rfl rfl ?_
      refine WL.next ?_
      refine WC.cond rfl (fun _ => ?_) (fun k => by cases k)
      refine WC.seq ?_
      refine WC.region ?_
      refine bu bt29 rfl rfl rfl ?_
      refine WL.front 3 ?_
      refine sta (C' := #[(.int .i64 0), (.int .i64 0), (.int .i64 0), (.int .i64 0), (.int .i64 0), (.slice none 0 0), (.bool false), (.int .i64 0), (.int .i64 0)]) sz29 rfl rfl rfl rfl rfl rfl ?_
      refine asg rfl rfl ?_
      refine WL.del 2 ?_
      refine WL.next ?_
      refine WC.ret ?_
      refine WX.then_ret ?_
      refine WX.front 1 ?_
      cases h
      exact retC2x Try.results24 (fun a w ha hw => ⟨RC.cellA ha hw 1 rfl ya29 rfl rfl, RC.tmp ha rfl⟩) (fun w hw => hw |>.del 1 |>.del 1) hI ⟨_, _, rfl, (IV.nil _ : IV _ _ ([] : List UInt8)), rfl⟩
    refine WL.rb 50 rfl (bf1 k73) ?_
    refine WL.on rfl rfl ?_
    refine lda 1 ya29 rfl rfl rfl rfl rfl ?_
    refine WL.on rfl rfl ?_
    refine WL.front 2 ?_
    refine WL.freeze (fun J74 hJ75 h76 => ?_)
    have hI := hI.trans hJ75
    obtain ⟨x77, e78, h⟩ := bnd h
    refine call cl33 rfl rfl (W33 e78 h76) (fun _ J79 _ hJ80 q81 => ?_)
    have hI := hI.trans hJ80
    replace h76 := h76.up hJ80
    obtain ⟨rfl, rfl⟩ := q81
    refine WL.on rfl rfl ?_
    refine ne rfl rfl rfl ?_
    refine pkF rfl rfl rfl ?_
    refine WL.next ?_
    refine WC.ite rfl h (fun k82 h => ?_) (fun k82 h => ?_)
    · skip
      refine WC.seq ?_
      refine WC.region ?_
      refine bu bt29 rfl rfl rfl ?_
      refine WL.front 2 ?_
      refine sta (C' := #[(.int .i64 0), (.int .i64 0), (.int .i64 0), (.int .i64 0), (.int .i64 0), (.slice none 0 0), (.bool false), (.int .i64 0), (.int .i64 0)]) sz29 rfl rfl rfl rfl rfl rfl ?_
      refine asg rfl rfl ?_
      refine WL.del 2 ?_
      refine WL.next ?_
      refine WC.ret ?_
      refine WX.then_ret ?_
      refine WX.front 1 ?_
      cases h
      exact retC2x Try.results24 (fun a w ha hw => ⟨RC.cellA ha hw 1 rfl ya29 rfl rfl, RC.tmp ha rfl⟩) (fun w hw => hw |>.del 1) hI ⟨_, _, rfl, (IV.nil _ : IV _ _ ([] : List UInt8)), rfl⟩
    refine WC.skip ?_
    refine WX.then_ ?_
    refine WC.seq ?_
    refine WC.region ?_
    refine lda 1 ya29 rfl rfl rfl rfl rfl ?_
    refine WL.front 2 ?_
    refine sta (C' := #[(.int .i64 (x4.toNat : Int)), (.int .i64 x10), (.int .i64 x16), (.int .i64 0), (.int .i64 x45), (.slice a57 x51.length c58), (.bool (decide ((x60.toNat : Int) = 1))), (.int .i64 0), (.int .i64 0)]) sz29 rfl rfl rfl rfl rfl rfl ?_
    refine asg rfl rfl ?_
    refine WL.del 2 ?_
    refine WL.next ?_
    refine WC.ret ?_
    refine WX.front 1 ?_
    cases h
    exact retC2x Try.results24 (fun a w ha hw => ⟨RC.cellA ha hw 1 rfl ya29 rfl rfl, RC.tmp ha rfl⟩) (fun w hw => hw |>.del 1) hI ⟨_, _, rfl, h76, rfl⟩
  refine WC.seq ?_
  refine WC.region ?_
  refine eq rfl rfl rfl ?_
  refine asg rfl rfl ?_
  refine WL.next ?_
  refine WC.ite rfl h (fun k83 h => ?_) (fun k83 h => ?_)
  · skip
    refine WC.region ?_
    refine mv rfl rfl ?_
    refine WL.front 1 ?_
    obtain ⟨⟨x84, s85⟩, e86, h⟩ := bnd h
    refine call cl30 rfl rfl (W30 e86) (fun _ J87 _ hJ88 q89 => ?_)
    have hI := hI.trans hJ88
    obtain ⟨rfl, rfl⟩ := q89
    refine mv rfl rfl ?_
    obtain ⟨⟨x90, s91⟩, e92, h⟩ := bnd h
    refine call cl30 rfl rfl (W30 e92) (fun _ J93 _ hJ94 q95 => ?_)
    have hI := hI.trans hJ94
    obtain ⟨rfl, rfl⟩ := q95
    refine mv rfl rfl ?_
    obtain ⟨⟨x96, s97⟩, e98, h⟩ := bnd h
    refine call cl30 rfl rfl (W30 e98) (fun _ J99 _ hJ100 q101 => ?_)
    have hI := hI.trans hJ100
    obtain ⟨rfl, rfl⟩ := q101
    refine fa fl29_3 rfl rfl ?_
    refine WL.front 1 ?_
    refine st (C' := #[(.int .i64 (x4.toNat : Int)), (.int .i64 x10), (.int .i64 x16), (.int .i64 x84), (.int .i64 0), (.slice none 0 0), (.bool false), (.int .i64 0), (.int .i64 0)]) sz3 rfl rfl rfl rfl rfl ?_
    refine fa fl29_7 rfl rfl ?_
    refine st (C' := #[(.int .i64 (x4.toNat : Int)), (.int .i64 x10), (.int .i64 x16), (.int .i64 x84), (.int .i64 0), (.slice none 0 0), (.bool false), (.int .i64 x90), (.int .i64 0)]) sz3 rfl rfl rfl rfl rfl ?_
    refine fa fl29_8 rfl rfl ?_
    refine st (C' := #[(.int .i64 (x4.toNat : Int)), (.int .i64 x10), (.int .i64 x16), (.int .i64 x84), (.int .i64 0), (.slice none 0 0), (.bool false), (.int .i64 x90), (.int .i64 x96)]) sz3 rfl rfl rfl rfl rfl ?_
    refine WL.nil ?_
    refine WX.block_normal ?_
    refine WX.then_ ?_
    refine WC.seq ?_
    refine WC.seq ?_
    refine WC.region ?_
    refine mv rfl rfl ?_
    refine WL.front 1 ?_
    obtain ⟨⟨x102, s103⟩, e104, h⟩ := bnd h
    refine call cl32 rfl rfl (W32 e104) (fun _ J105 _ hJ106 q107 => ?_)
    have hI := hI.trans hJ106
    obtain ⟨rfl, rfl⟩ := q107
    refine mv rfl rfl ?_
    rcases spl h with ⟨k108, h⟩ | ⟨k108, h⟩
    · skip
      refine WL.rb 50 rfl (bt1 k108) ?_
      refine WL.no rfl rfl rfl rfl ?_
      refine WL.no rfl rfl rfl rfl ?_
      refine WL.no rfl rfl rfl rfl ?_
      refine pkT rfl rfl rfl ?_
      refine WL.next ?_
      refine WC.cond rfl (fun _ => ?_) (fun k => by cases k)
      refine WC.seq ?_
      refine WC.region ?_
      refine bu bt29 rfl rfl rfl ?_
      refine WL.front 2 ?_
      refine sta (C' := #[(.int .i64 0), (.int .i64 0), (.int .i64 0), (.int .i64 0), (.int .i64 0), (.slice none 0 0), (.bool false), (.int .i64 0), (.int .i64 0)]) sz29 rfl rfl rfl rfl rfl rfl ?_
      refine asg rfl rfl ?_
      refine WL.del 2 ?_
      refine WL.next ?_
      refine WC.ret ?_
      refine WX.then_ret ?_
      refine WX.front 1 ?_
      cases h
      exact retC2x Try.results24 (fun a w ha hw => ⟨RC.cellA ha hw 1 rfl ya29 rfl rfl, RC.tmp ha rfl⟩) (fun w hw => hw |>.del 1) hI ⟨_, _, rfl, (IV.nil _ : IV _ _ ([] : List UInt8)), rfl⟩
    refine WL.rb 50 rfl (bf1 k108) ?_
    refine WL.on rfl rfl ?_
    refine lda 1 ya29 rfl rfl rfl rfl rfl ?_
    refine WL.on rfl rfl ?_
    obtain ⟨x109, e110, h⟩ := bnd h
    refine call cl33 rfl rfl (W33 e110 (IV.nil _ : IV _ _ ([] : List UInt8))) (fun _ J111 _ hJ112 q113 => ?_)
    have hI := hI.trans hJ112
    obtain ⟨rfl, rfl⟩ := q113
    refine WL.on rfl rfl ?_
    refine ne rfl rfl rfl ?_
    refine pkF rfl rfl rfl ?_
    refine WL.next ?_
    refine WC.ite rfl h (fun k114 h => ?_) (fun k114 h => ?_)
    · skip
      refine WC.seq ?_
      refine WC.region ?_
      refine bu bt29 rfl rfl rfl ?_
      refine WL.front 2 ?_
      refine sta (C' := #[(.int .i64 0), (.int .i64 0), (.int .i64 0), (.int .i64 0), (.int .i64 0), (.slice none 0 0), (.bool false), (.int .i64 0), (.int .i64 0)]) sz29 rfl rfl rfl rfl rfl rfl ?_
      refine asg rfl rfl ?_
      refine WL.del 2 ?_
      refine WL.next ?_
      refine WC.ret ?_
      refine WX.then_ret ?_
      refine WX.front 1 ?_
      cases h
      exact retC2x Try.results24 (fun a w ha hw => ⟨RC.cellA ha hw 1 rfl ya29 rfl rfl, RC.tmp ha rfl⟩) (fun w hw => hw |>.del 1) hI ⟨_, _, rfl, (IV.nil _ : IV _ _ ([] : List UInt8)), rfl⟩
    refine WC.skip ?_
    refine WX.then_ ?_
    refine WC.seq ?_
    refine WC.region ?_
    refine lda 1 ya29 rfl rfl rfl rfl rfl ?_
    refine WL.front 2 ?_
    refine sta (C' := #[(.int .i64 (x4.toNat : Int)), (.int .i64 x10), (.int .i64 x16), (.int .i64 x84), (.int .i64 0), (.slice none 0 0), (.bool false), (.int .i64 x90), (.int .i64 x96)]) sz29 rfl rfl rfl rfl rfl rfl ?_
    refine asg rfl rfl ?_
    refine WL.del 2 ?_
    refine WL.next ?_
    refine WC.ret ?_
    refine WX.front 1 ?_
    cases h
    exact retC2x Try.results24 (fun a w ha hw => ⟨RC.cellA ha hw 1 rfl ya29 rfl rfl, RC.tmp ha rfl⟩) (fun w hw => hw |>.del 1) hI ⟨_, _, rfl, (IV.nil _ : IV _ _ ([] : List UInt8)), rfl⟩
  refine WC.skip ?_
  refine WX.block_normal ?_
  refine WX.then_ ?_
  refine WC.seq ?_
  refine WC.seq ?_
  refine WC.region ?_
  refine mv rfl rfl ?_
  refine WL.front 1 ?_
  obtain ⟨⟨x115, s116⟩, e117, h⟩ := bnd h
  refine call cl32 rfl rfl (W32 e117) (fun _ J118 _ hJ119 q120 => ?_)
  have hI := hI.trans hJ119
  obtain ⟨rfl, rfl⟩ := q120
  refine mv rfl rfl ?_
  rcases spl h with ⟨k121, h⟩ | ⟨k121, h⟩
  · skip
    refine WL.rb 50 rfl (bt1 k121) ?_
    refine WL.no rfl rfl rfl rfl ?_
    refine WL.no rfl rfl rfl rfl ?_
    refine WL.no rfl rfl rfl rfl ?_
    refine pkT rfl rfl rfl ?_
    refine WL.next ?_
    refine WC.cond rfl (fun _ => ?_) (fun k => by cases k)
    refine WC.seq ?_
    refine WC.region ?_
    refine bu bt29 rfl rfl rfl ?_
    refine WL.front 2 ?_
    refine sta (C' := #[(.int .i64 0), (.int .i64 0), (.int .i64 0), (.int .i64 0), (.int .i64 0), (.slice none 0 0), (.bool false), (.int .i64 0), (.int .i64 0)]) sz29 rfl rfl rfl rfl rfl rfl ?_
    refine asg rfl rfl ?_
    refine WL.del 2 ?_
    refine WL.next ?_
    refine WC.ret ?_
    refine WX.then_ret ?_
    refine WX.front 1 ?_
    cases h
    exact retC2x Try.results24 (fun a w ha hw => ⟨RC.cellA ha hw 1 rfl ya29 rfl rfl, RC.tmp ha rfl⟩) (fun w hw => hw |>.del 1) hI ⟨_, _, rfl, (IV.nil _ : IV _ _ ([] : List UInt8)), rfl⟩
  refine WL.rb 50 rfl (bf1 k121) ?_
  refine WL.on rfl rfl ?_
  refine lda 1 ya29 rfl rfl rfl rfl rfl ?_
  refine WL.on rfl rfl ?_
  obtain ⟨x122, e123, h⟩ := bnd h
  refine call cl33 rfl rfl (W33 e123 (IV.nil _ : IV _ _ ([] : List UInt8))) (fun _ J124 _ hJ125 q126 => ?_)
  have hI := hI.trans hJ125
  obtain ⟨rfl, rfl⟩ := q126
  refine WL.on rfl rfl ?_
  refine ne rfl rfl rfl ?_
  refine pkF rfl rfl rfl ?_
  refine WL.next ?_
  refine WC.ite rfl h (fun k127 h => ?_) (fun k127 h => ?_)
  · skip
    refine WC.seq ?_
    refine WC.region ?_
    refine bu bt29 rfl rfl rfl ?_
    refine WL.front 2 ?_
    refine sta (C' := #[(.int .i64 0), (.int .i64 0), (.int .i64 0), (.int .i64 0), (.int .i64 0), (.slice none 0 0), (.bool false), (.int .i64 0), (.int .i64 0)]) sz29 rfl rfl rfl rfl rfl rfl ?_
    refine asg rfl rfl ?_
    refine WL.del 2 ?_
    refine WL.next ?_
    refine WC.ret ?_
    refine WX.then_ret ?_
    refine WX.front 1 ?_
    cases h
    exact retC2x Try.results24 (fun a w ha hw => ⟨RC.cellA ha hw 1 rfl ya29 rfl rfl, RC.tmp ha rfl⟩) (fun w hw => hw |>.del 1) hI ⟨_, _, rfl, (IV.nil _ : IV _ _ ([] : List UInt8)), rfl⟩
  refine WC.skip ?_
  refine WX.then_ ?_
  refine WC.seq ?_
  refine WC.region ?_
  refine lda 1 ya29 rfl rfl rfl rfl rfl ?_
  refine WL.front 2 ?_
  refine sta (C' := #[(.int .i64 (x4.toNat : Int)), (.int .i64 x10), (.int .i64 x16), (.int .i64 0), (.int .i64 0), (.slice none 0 0), (.bool false), (.int .i64 0), (.int .i64 0)]) sz29 rfl rfl rfl rfl rfl rfl ?_
  refine asg rfl rfl ?_
  refine WL.del 2 ?_
  refine WL.next ?_
  refine WC.ret ?_
  refine WX.front 1 ?_
  cases h
  exact retC2x Try.results24 (fun a w ha hw => ⟨RC.cellA ha hw 1 rfl ya29 rfl rfl, RC.tmp ha rfl⟩) (fun w hw => hw |>.del 1) hI ⟨_, _, rfl, (IV.nil _ : IV _ _ ([] : List UInt8)), rfl⟩
theorem W14 {I : Mem} {G : List Asn} {p0 : List UInt8} {r : api_Packet × Int} (h : packet_Unpack p0 = some r) {u0 : Value} (hp0 : IV I u0 p0) :
    CallsS Try.prog 14 #[u0] I (G) (fun v J G' => ∃ ra0_5 rc0_5, v = .tuple #[.agg #[.int .i64 r.1.Kind, .int .i64 r.1.Path, .int .i64 r.1.Number, .int .i64 r.1.Of, .int .i64 r.1.From, .slice ra0_5 r.1.Data.length rc0_5, .bool r.1.Fin, .int .i64 r.1.Seen, .int .i64 r.1.Limit], .int .i64 r.2] ∧ IV J (.slice ra0_5 r.1.Data.length rc0_5) r.1.Data ∧ G = G') := by
  refine CallsS.enter Try.func14 rfl Try.ntmps14 rfl (fun w0 => ?_)
  have hI := Mem.le.refl I
  obtain ⟨a0, c0, rfl⟩ := hp0.hd
  unfold packet_Unpack at h
  refine WC.seq ?_
  refine WC.region ?_
  refine al Try.zeroValue29 rfl (fun g1 => ?_)
  refine asg rfl rfl ?_
  refine WL.next ?_
  refine WC.seq ?_
  refine WC.region ?_
  refine mv rfl rfl ?_
  obtain ⟨⟨x3, x4⟩, e5, h⟩ := bnd h
  refine call cl22 rfl rfl (W22 e5 hp0) (fun _ J6 _ hJ7 q8 => ?_)
  have hI := hI.trans hJ7
  replace hp0 := hp0.up hJ7
  obtain ⟨a9, c10, rfl, rfl⟩ := q8
  refine mv rfl rfl ?_
  refine ex rfl rfl rfl ?_
  refine ex rfl rfl rfl ?_
  refine asg rfl rfl ?_
  refine asg rfl rfl ?_
  refine WL.next ?_
  refine WC.seq ?_
  refine WC.seq ?_
  refine WC.region ?_
  refine mv rfl rfl ?_
  refine nt rfl rfl ?_
  refine WL.next ?_
  refine WC.itebn rfl h (fun k12 h => ?_) (fun k12 h => ?_)
  · skip
    refine WC.skip ?_
    refine WX.then_ ?_
    refine WC.seq ?_
    refine WC.region ?_
    refine mv rfl rfl ?_
    refine WL.freeze (fun J13 hJ14 h15 => ?_)
    have hI := hI.trans hJ14
    obtain ⟨s16, e17, h⟩ := bnd h
    refine call cl23 rfl rfl (W23 e17 h15) (fun _ J18 _ hJ19 q20 => ?_)
    have hI := hI.trans hJ19
    replace h15 := h15.up hJ19
    obtain ⟨g21, rfl, rfl⟩ := q20
    refine asg rfl rfl ?_
    refine WL.next ?_
    refine WC.seq ?_
    refine WC.region ?_
    refine mv rfl rfl ?_
    obtain ⟨⟨x23, x24, s25⟩, e26, h⟩ := bnd h
    refine call cl24 rfl rfl (W24 e26) (fun _ J27 _ hJ28 q29 => ?_)
    have hI := hI.trans hJ28
    obtain ⟨a30, c31, rfl, h32, rfl⟩ := q29
    refine mv rfl rfl ?_
    refine ex rfl rfl rfl ?_
    refine ex rfl rfl rfl ?_
    refine al Try.zeroValue29 rfl (fun g33 => ?_)
    refine sta (C' := #[(.int .i64 x23.Kind), (.int .i64 x23.Path), (.int .i64 x23.Number), (.int .i64 x23.Of), (.int .i64 x23.From), (.slice a30 x23.Data.length c31), (.bool x23.Fin), (.int .i64 x23.Seen), (.int .i64 x23.Limit)]) sz29 rfl rfl rfl rfl rfl rfl ?_
    refine asg rfl rfl ?_
    refine WL.next ?_
    refine WC.seq ?_
    refine WC.seq ?_
    refine WC.region ?_
    refine mv rfl rfl ?_
    refine nt rfl rfl ?_
    refine mv rfl rfl ?_
    rcases spl h with ⟨k35, h⟩ | ⟨k35, h⟩
    · skip
      refine WL.rb 25 rfl (bt1n k35) ?_
      refine WL.on rfl rfl ?_
      refine mv rfl rfl ?_
      refine WL.on rfl rfl ?_
      refine WL.front 1 ?_
      obtain ⟨⟨x36, s37⟩, e38, h⟩ := bnd h
      refine call cl25 rfl rfl (W25 e38) (fun _ J39 _ hJ40 q41 => ?_)
      have hI := hI.trans hJ40
      replace h32 := h32.up hJ40
      obtain ⟨rfl, rfl⟩ := q41
      refine WL.on rfl rfl ?_
      refine gt rfl rfl rfl ?_
      refine pkF rfl rfl rfl ?_
      refine WL.del 0 ?_
      refine WL.next ?_
      refine WC.ite rfl h (fun k42 h => ?_) (fun k42 h => ?_)
      · skip
        refine WC.seq ?_
        refine WC.region ?_
        refine bu bt29 rfl rfl rfl ?_
        refine WL.front 1 ?_
        refine sta (C' := #[(.int .i64 0), (.int .i64 0), (.int .i64 0), (.int .i64 0), (.int .i64 0), (.slice none 0 0), (.bool false), (.int .i64 0), (.int .i64 0)]) sz29 rfl rfl rfl rfl rfl rfl ?_
        refine asg rfl rfl ?_
        refine WL.del 1 ?_
        refine WL.next ?_
        refine WC.ret ?_
        refine WX.then_ret ?_
        cases h
        exact retC2x Try.results14 (fun a w ha hw => ⟨RC.cellA ha hw 0 rfl ya29 rfl rfl, RC.tmp ha rfl⟩) (fun w hw => hw |>.del 0) hI ⟨_, _, rfl, (IV.nil _ : IV _ _ ([] : List UInt8)), rfl⟩
      refine WC.skip ?_
      refine WX.then_ ?_
      refine WC.seq ?_
      refine WC.region ?_
      refine lda 0 ya29 rfl rfl rfl rfl rfl ?_
      refine WL.front 1 ?_
      refine sta (C' := #[(.int .i64 x23.Kind), (.int .i64 x23.Path), (.int .i64 x23.Number), (.int .i64 x23.Of), (.int .i64 x23.From), (.slice a30 x23.Data.length c31), (.bool x23.Fin), (.int .i64 x23.Seen), (.int .i64 x23.Limit)]) sz29 rfl rfl rfl rfl rfl rfl ?_
      refine asg rfl rfl ?_
      refine WL.del 1 ?_
      refine WL.next ?_
      refine WC.ret ?_
      cases h
      exact retC2x Try.results14 (fun a w ha hw => ⟨RC.cellA ha hw 0 rfl ya29 rfl rfl, RC.tmp ha rfl⟩) (fun w hw => hw |>.del 0) hI ⟨_, _, rfl, h32, rfl⟩
    refine WL.rb 25 rfl (bf1n k35) ?_
    refine WL.no rfl rfl rfl rfl ?_
    refine WL.no rfl rfl rfl rfl ?_
    refine WL.no rfl rfl rfl rfl ?_
    refine pkT rfl rfl rfl ?_
    refine WL.del 1 ?_
    refine WL.next ?_
    refine WC.cond rfl (fun _ => ?_) (fun k => by cases k)
    refine WC.seq ?_
    refine WC.region ?_
    refine bu bt29 rfl rfl rfl ?_
    refine WL.front 1 ?_
    refine sta (C' := #[(.int .i64 0), (.int .i64 0), (.int .i64 0), (.int .i64 0), (.int .i64 0), (.slice none 0 0), (.bool false), (.int .i64 0), (.int .i64 0)]) sz29 rfl rfl rfl rfl rfl rfl ?_
    refine asg rfl rfl ?_
    refine WL.del 1 ?_
    refine WL.next ?_
    refine WC.ret ?_
    refine WX.then_ret ?_
    cases h
    exact retC2x Try.results14 (fun a w ha hw => ⟨RC.cellA ha hw 0 rfl ya29 rfl rfl, RC.tmp ha rfl⟩) (fun w hw => hw |>.del 0) hI ⟨_, _, rfl, (IV.nil _ : IV _ _ ([] : List UInt8)), rfl⟩
  refine WC.seq ?_
  refine WC.region ?_
  refine bu bt29 rfl rfl rfl ?_
  refine WL.front 1 ?_
  refine sta (C' := #[(.int .i64 0), (.int .i64 0), (.int .i64 0), (.int .i64 0), (.int .i64 0), (.slice none 0 0), (.bool false), (.int .i64 0), (.int .i64 0)]) sz29 rfl rfl rfl rfl rfl rfl ?_
  refine asg rfl rfl ?_
  refine WL.del 1 ?_
  refine WL.next ?_
  refine WC.ret ?_
  refine WX.then_ret ?_
  cases h
  exact retC2x Try.results14 (fun a w ha hw => ⟨RC.cellA ha hw 0 rfl ya29 rfl rfl, RC.tmp ha rfl⟩) (fun w hw => hw |>.del 0) hI ⟨_, _, rfl, (IV.nil _ : IV _ _ ([] : List UInt8)), rfl⟩
theorem W4 {I : Mem} {G : List Asn} {p0 : Int} {p1 : Int} {r : Bool} (h : haulierlaw20_NetOrder p0 p1 = some r) :
    CallsS Try.prog 4 #[.int .i64 p0, .int .i64 p1] I (G) (fun v J G' => v = .bool r ∧ G = G') := by
  refine CallsS.enter Try.func4 rfl Try.ntmps4 rfl (fun w0 => ?_)
  have hI := Mem.le.refl I
  unfold haulierlaw20_NetOrder at h
  refine WC.seq ?_
  refine WC.region ?_
  refine asg rfl rfl ?_
  refine WL.next ?_
  refine WC.seq ?_
  refine WC.region ?_
  obtain ⟨s1, e2, h⟩ := bnd h
  refine call cl5 rfl rfl (W5 e2) (fun _ J3 _ hJ4 q5 => ?_)
  have hI := hI.trans hJ4
  obtain ⟨g6, rfl, rfl⟩ := q5
  refine asg rfl rfl ?_
  refine WL.next ?_
  refine WC.seq ?_
  refine WC.seq ?_
  refine WC.region ?_
  refine mv rfl rfl ?_
  refine pe pt22 rfl rfl rfl ?_
  refine WL.next ?_
  refine WC.cond rfl (fun k => by cases k) (fun _ => ?_)
  refine WC.skip ?_
  refine WX.then_ ?_
  refine WC.seq ?_
  refine WC.region ?_
  refine mv rfl rfl ?_
  obtain ⟨x8, e9, h⟩ := bnd h
  refine call cl6 rfl rfl (W6 e9) (fun _ J10 _ hJ11 q12 => ?_)
  have hI := hI.trans hJ11
  obtain ⟨rfl, rfl⟩ := q12
  refine ad rfl rfl rfl ?_
  refine asg rfl rfl ?_
  refine WL.next ?_
  refine WC.seq ?_
  refine WC.region ?_
  refine mv rfl rfl ?_
  refine mv rfl rfl ?_
  obtain ⟨x13, e14, h⟩ := bnd h
  refine call cl6 rfl rfl (W6 e14) (fun _ J15 _ hJ16 q17 => ?_)
  have hI := hI.trans hJ16
  obtain ⟨rfl, rfl⟩ := q17
  refine asg rfl rfl ?_
  refine WL.next ?_
  refine WC.seq ?_
  refine WC.seq ?_
  refine WC.region ?_
  refine asg rfl rfl ?_
  refine WL.next ?_
  obtain ⟨j50, hj50, h⟩ := bnd h
  refine WC.joinQ (σ := net_Net) (fun s49 => [(0, (.int .i64 (w64 (1 + x8)))), (1, (.int .i64 x13)), (5, (.pointer (some ⟨g6, 0, none⟩)))]) (fun s49 => Ob_net_Net g6 s49 :: G) (fun s49 J => Sum.inr s49 = j50) (fun kj50 => ?_) ?_
  · skip
    have lj50 := Mem.le.refl J15
    refine WC.block ?_
    refine WC.loop (σ := net_Net × Int) (fun k (s61, x62) => haulierlaw20_NetOrder_l0 x8 k s61 x62) _ (fun (s61, x62) => [(0, (.int .i64 (w64 (1 + x8)))), (1, (.int .i64 x13)), (5, (.pointer (some ⟨g6, 0, none⟩))), (6, (.int .i64 x62))]) (fun (s61, x62) => Ob_net_Net g6 s61 :: G) (fun (s61, x62) J => True) (fun ⟨s61, x62⟩ => rfl) bigN ⟨s1, 0⟩ hj50 trivial ⟨rfl, rfl, rfl, rfl, trivial⟩ rfl ?_
    rintro k0 ih0 ⟨s61, x62⟩ J72 hJ73 - hj50
    change haulierlaw20_NetOrder_l0 x8 (k0 + 1) s61 x62 = _ at hj50
    rw [haulierlaw20_NetOrder_l0] at hj50
    have hI := hI.trans hJ73
    have lj50 := lj50.trans hJ73
    have ll0 := hJ73
    refine WC.seq ?_
    refine WC.seq ?_
    refine WC.region ?_
    refine mv rfl rfl ?_
    refine mv rfl rfl ?_
    refine lt rfl rfl rfl ?_
    refine WL.next ?_
    refine WC.ite rfl hj50 (fun k74 hj50 => ?_) (fun k74 hj50 => ?_)
    · skip
      refine WC.skip ?_
      refine WX.then_ ?_
      refine WC.seq ?_
      refine WC.block ?_
      refine WC.seq ?_
      refine WC.region ?_
      refine mv rfl rfl ?_
      refine mv rfl rfl ?_
      refine bu bt29 rfl rfl rfl ?_
      obtain ⟨⟨x75, s76⟩, e77, hj50⟩ := bnd hj50
      refine call cl7 rfl rfl (W7 e77 (IV.nil _ : IV _ _ ([] : List UInt8))) (fun _ J78 _ hJ79 q80 => ?_)
      have hI := hI.trans hJ79
      have lj50 := lj50.trans hJ79
      have ll0 := ll0.trans hJ79
      obtain ⟨rfl, rfl⟩ := q80
      refine ne rfl rfl rfl ?_
      refine WL.next ?_
      refine WC.ite rfl hj50 (fun k81 hj50 => ?_) (fun k81 hj50 => ?_)
      · skip
        refine WC.seq ?_
        refine WC.region ?_
        refine asg rfl rfl ?_
        refine WL.del 0 ?_
        refine WL.next ?_
        refine WC.ret ?_
        refine WX.block_ret ?_
        refine WX.then_ret ?_
        refine WX.then_ret ?_
        refine WX.block_ret ?_
        refine WX.then_ret ?_
        cases hj50
        replace h : some _ = some _ := h
        cases h
        exact ret1 Try.results4 rfl hI ⟨rfl, rfl⟩
      refine WC.skip ?_
      refine WX.block_normal ?_
      refine WX.then_ ?_
      refine WC.region ?_
      refine mv rfl rfl ?_
      refine ad rfl rfl rfl ?_
      refine asg rfl rfl ?_
      refine WL.nil ?_
      refine WX.round ?_
      exact (ih0 ⟨s76, w64 (x62 + 1)⟩ _ ll0 trivial hj50).sub ⟨rfl, rfl, rfl, rfl, trivial⟩
    refine WC.exit ?_
    refine WX.then_exit ?_
    refine WX.then_exit ?_
    refine WX.block_here ?_
    exact (kj50 s61 _ lj50 (Option.some.inj hj50)).sub ⟨rfl, rfl, rfl, trivial⟩
  rintro s49 J82 hJ83 rfl
  have hI := hI.trans hJ83
  refine WX.then_ ?_
  refine WC.seq ?_
  refine WC.seq ?_
  obtain ⟨j126, hj126, h⟩ := bnd h
  refine WC.joinQ (σ := net_Net × Bool) (fun (s124, x125) => [(0, (.int .i64 (w64 (1 + x8)))), (1, (.int .i64 x13)), (5, (.pointer (some ⟨g6, 0, none⟩))), (57, (.bool x125))]) (fun (s124, x125) => Ob_net_Net g6 s124 :: G) (fun (s124, x125) J => (s124, x125) = j126) (fun kj126 => ?_) ?_
  · skip
    have lj126 := Mem.le.refl J82
    refine WC.region ?_
    refine mv rfl rfl ?_
    refine mv rfl rfl ?_
    obtain ⟨⟨x127, s128⟩, e129, hj126⟩ := bnd hj126
    refine call cl10 rfl rfl (W10 e129) (fun _ J130 _ hJ131 q132 => ?_)
    have hI := hI.trans hJ131
    have lj126 := lj126.trans hJ131
    obtain ⟨rfl, rfl⟩ := q132
    refine nt rfl rfl ?_
    refine mv rfl rfl ?_
    rcases spl hj126 with ⟨k133, hj126⟩ | ⟨k133, hj126⟩
    · skip
      refine WL.rb 46 rfl (bt1n k133) ?_
      refine WL.on rfl rfl ?_
      refine mv rfl rfl ?_
      refine WL.on rfl rfl ?_
      obtain ⟨⟨x134, s135⟩, e136, hj126⟩ := bnd hj126
      refine call cl11 rfl rfl (W11 e136) (fun _ J137 _ hJ138 q139 => ?_)
      have hI := hI.trans hJ138
      have lj126 := lj126.trans hJ138
      obtain ⟨rfl, rfl⟩ := q139
      refine WL.on rfl rfl ?_
      refine mv rfl rfl ?_
      refine WL.on rfl rfl ?_
      refine ad rfl rfl rfl ?_
      refine WL.on rfl rfl ?_
      refine ne rfl rfl rfl ?_
      refine pkF rfl rfl rfl ?_
      refine mv rfl rfl ?_
      rcases spl hj126 with ⟨k140, hj126⟩ | ⟨k140, hj126⟩
      · skip
        refine WL.rb 53 rfl (bT k140) ?_
        refine WL.no rfl rfl rfl rfl ?_
        refine WL.no rfl rfl rfl rfl ?_
        refine WL.no rfl rfl rfl rfl ?_
        refine pkT rfl rfl rfl ?_
        refine WL.nil ?_
        exact (kj126 ⟨s135, true⟩ _ lj126 (Option.some.inj hj126)).sub ⟨rfl, rfl, rfl, rfl, trivial⟩
      refine WL.rb 53 rfl (bF k140) ?_
      refine WL.on rfl rfl ?_
      refine mv rfl rfl ?_
      refine WL.on rfl rfl ?_
      obtain ⟨⟨x141, s142⟩, e143, hj126⟩ := bnd hj126
      refine call cl11 rfl rfl (W11 e143) (fun _ J144 _ hJ145 q146 => ?_)
      have hI := hI.trans hJ145
      have lj126 := lj126.trans hJ145
      obtain ⟨rfl, rfl⟩ := q146
      refine WL.on rfl rfl ?_
      refine ne rfl rfl rfl ?_
      refine pkF rfl rfl rfl ?_
      refine WL.nil ?_
      exact (kj126 ⟨s142, (decide (x141 ≠ 0))⟩ _ lj126 (Option.some.inj hj126)).sub ⟨rfl, rfl, rfl, rfl, trivial⟩
    refine WL.rb 46 rfl (bf1n k133) ?_
    refine WL.no rfl rfl rfl rfl ?_
    refine WL.no rfl rfl rfl rfl ?_
    refine WL.no rfl rfl rfl rfl ?_
    refine WL.no rfl rfl rfl rfl ?_
    refine WL.no rfl rfl rfl rfl ?_
    refine pkT rfl rfl rfl ?_
    refine mv rfl rfl ?_
    refine WL.no rfl rfl rfl rfl ?_
    refine WL.no rfl rfl rfl rfl ?_
    refine WL.no rfl rfl rfl rfl ?_
    refine pkT rfl rfl rfl ?_
    refine WL.nil ?_
    exact (kj126 ⟨s128, true⟩ _ lj126 (Option.some.inj hj126)).sub ⟨rfl, rfl, rfl, rfl, trivial⟩
  rintro ⟨s124, x125⟩ J147 hJ148 rfl
  have hI := hI.trans hJ148
  refine WX.then_ ?_
  refine WC.iteb rfl h (fun k149 h => ?_) (fun k149 h => ?_)
  · skip
    refine WC.seq ?_
    refine WC.region ?_
    refine asg rfl rfl ?_
    refine WL.del 0 ?_
    refine WL.next ?_
    refine WC.ret ?_
    refine WX.then_ret ?_
    cases h
    exact ret1 Try.results4 rfl hI ⟨rfl, rfl⟩
  refine WC.skip ?_
  refine WX.then_ ?_
  refine WC.seq ?_
  refine WC.region ?_
  refine mv rfl rfl ?_
  refine mv rfl rfl ?_
  obtain ⟨⟨x150, x151, s152⟩, e153, h⟩ := bnd h
  refine call cl8 rfl rfl (W8 e153) (fun _ J154 _ hJ155 q156 => ?_)
  have hI := hI.trans hJ155
  obtain ⟨a157, c158, rfl, rfl⟩ := q156
  refine mv rfl rfl ?_
  refine ex rfl rfl rfl ?_
  refine ex rfl rfl rfl ?_
  refine asg rfl rfl ?_
  refine asg rfl rfl ?_
  refine WL.next ?_
  refine WC.seq ?_
  refine WC.seq ?_
  obtain ⟨j163, hj163, h⟩ := bnd h
  refine WC.joinQ (σ := Bool) (fun x162 => [(0, (.int .i64 (w64 (1 + x8)))), (1, (.int .i64 x13)), (5, (.pointer (some ⟨g6, 0, none⟩))), (7, (.slice a157 x150.length c158)), (70, (.bool x162))]) (fun x162 => OV 5 (.slice a157 x150.length c158) x150 :: Ob_net_Net g6 s152 :: G) (fun x162 J => x162 = j163) (fun kj163 => ?_) ?_
  · skip
    have lj163 := Mem.le.refl J154
    refine WC.region ?_
    refine mv rfl rfl ?_
    refine nt rfl rfl ?_
    refine mv rfl rfl ?_
    rcases spl hj163 with ⟨k164, hj163⟩ | ⟨k164, hj163⟩
    · skip
      refine WL.rb 66 rfl (bt1n k164) ?_
      refine WL.on rfl rfl ?_
      refine mv rfl rfl ?_
      refine WL.on rfl rfl ?_
      refine ln et27 rfl (OV.rd 0 rfl) rfl ?_
      refine WL.on rfl rfl ?_
      refine eq rfl rfl rfl ?_
      refine pkF rfl rfl rfl ?_
      refine WL.nil ?_
      refine WX.front 1 ?_
      refine WX.front 1 ?_
      exact (kj163 (decide ((x150.length : Int) = 0)) _ lj163 (Option.some.inj hj163)).sub ⟨rfl, rfl, rfl, rfl, rfl, trivial⟩
    refine WL.rb 66 rfl (bf1n k164) ?_
    refine WL.no rfl rfl rfl rfl ?_
    refine WL.no rfl rfl rfl rfl ?_
    refine WL.no rfl rfl rfl rfl ?_
    refine pkT rfl rfl rfl ?_
    refine WL.nil ?_
    refine WX.front 1 ?_
    refine WX.front 1 ?_
    exact (kj163 true _ lj163 (Option.some.inj hj163)).sub ⟨rfl, rfl, rfl, rfl, rfl, trivial⟩
  rintro x162 J165 hJ166 rfl
  have hI := hI.trans hJ166
  refine WX.then_ ?_
  refine WC.iteb rfl h (fun k167 h => ?_) (fun k167 h => ?_)
  · skip
    refine WC.seq ?_
    refine WC.region ?_
    refine asg rfl rfl ?_
    refine WL.del 0 ?_
    refine WL.del 0 ?_
    refine WL.next ?_
    refine WC.ret ?_
    refine WX.then_ret ?_
    cases h
    exact ret1 Try.results4 rfl hI ⟨rfl, rfl⟩
  refine WC.skip ?_
  refine WX.then_ ?_
  refine WC.seq ?_
  refine WC.region ?_
  refine mv rfl rfl ?_
  obtain ⟨k168, h⟩ := chk h
  refine ixo 0 et27 rfl rfl rfl k168 rfl (fun uv169 h170 => ?_)
  obtain ⟨z173, e174, h⟩ := bnd h
  refine ldo (α := UInt8) 0 na5 rfl h170 rfl e174 rfl (fun uv171 h172 => ?_)
  obtain rfl := h172.u8
  refine ad8 (a := z173) (b := (1 : UInt8)) rfl rfl rfl rfl rfl ?_
  obtain ⟨k175, h⟩ := chk h
  refine ixo 0 et27 rfl rfl rfl k175 rfl (fun uv176 h177 => ?_)
  obtain ⟨x178, e179, h⟩ := bnd h
  refine sto2 (α := UInt8) (z := (z173 + (1 : UInt8))) sz5 rfl rfl h177 (ilt k175) (Rv.of_u8 _ (z173 + (1 : UInt8))) (Option.some.inj e179) ?_
  refine WL.rb 7 rfl (u := (.slice a157 x178.length c158)) (by rw [← Option.some.inj e179, List.length_set]; first | done | rfl) ?_
  refine WL.rb 71 rfl (u := (.slice a157 x178.length c158)) (by rw [← Option.some.inj e179, List.length_set]; first | done | rfl) ?_
  refine WL.del 0 ?_
  refine WL.next ?_
  refine WC.seq ?_
  refine WC.region ?_
  refine mv rfl rfl ?_
  refine mv rfl rfl ?_
  obtain ⟨⟨x180, x181, s182⟩, e183, h⟩ := bnd h
  refine call cl9 rfl rfl (W9 e183) (fun _ J184 _ hJ185 q186 => ?_)
  have hI := hI.trans hJ185
  obtain ⟨a187, c188, rfl, rfl⟩ := q186
  refine mv rfl rfl ?_
  refine ex rfl rfl rfl ?_
  refine ex rfl rfl rfl ?_
  refine asg rfl rfl ?_
  refine asg rfl rfl ?_
  refine WL.next ?_
  refine WC.seq ?_
  refine WC.region ?_
  refine mv rfl rfl ?_
  refine WL.freeze (fun J190 hJ191 h192 => ?_)
  have hI := hI.trans hJ191
  obtain ⟨⟨x193, x194⟩, e195, h⟩ := bnd h
  refine call cl14 rfl rfl (W14 e195 h192) (fun _ J196 _ hJ197 q198 => ?_)
  have hI := hI.trans hJ197
  replace h192 := h192.up hJ197
  obtain ⟨a199, c200, rfl, h201, rfl⟩ := q198
  refine mv rfl rfl ?_
  refine ex rfl rfl rfl ?_
  refine ex rfl rfl rfl ?_
  refine al Try.zeroValue29 rfl (fun g202 => ?_)
  refine sta (C' := #[(.int .i64 x193.Kind), (.int .i64 x193.Path), (.int .i64 x193.Number), (.int .i64 x193.Of), (.int .i64 x193.From), (.slice a199 x193.Data.length c200), (.bool x193.Fin), (.int .i64 x193.Seen), (.int .i64 x193.Limit)]) sz29 rfl rfl rfl rfl rfl rfl ?_
  refine asg rfl rfl ?_
  refine WL.next ?_
  refine WC.seq ?_
  refine WC.seq ?_
  obtain ⟨j224, hj224, h⟩ := bnd h
  refine WC.joinQ (σ := net_Net × Bool) (fun (s222, x223) => [(0, (.int .i64 (w64 (1 + x8)))), (1, (.int .i64 x13)), (5, (.pointer (some ⟨g6, 0, none⟩))), (104, (.bool x223))]) (fun (s222, x223) => Ob_net_Net g6 s222 :: G) (fun (s222, x223) J => (s222, x223) = j224) (fun kj224 => ?_) ?_
  · skip
    have lj224 := Mem.le.refl J196
    refine WC.region ?_
    refine mv rfl rfl ?_
    refine nt rfl rfl ?_
    refine mv rfl rfl ?_
    rcases spl hj224 with ⟨k225, hj224⟩ | ⟨k225, hj224⟩
    · skip
      refine WL.rb 89 rfl (bt1n k225) ?_
      refine WL.on rfl rfl ?_
      refine mv rfl rfl ?_
      refine WL.on rfl rfl ?_
      refine ne rfl rfl rfl ?_
      refine pkF rfl rfl rfl ?_
      refine mv rfl rfl ?_
      rcases spl hj224 with ⟨k226, hj224⟩ | ⟨k226, hj224⟩
      · skip
        refine WL.rb 93 rfl (bT k226) ?_
        refine WL.no rfl rfl rfl rfl ?_
        refine WL.no rfl rfl rfl rfl ?_
        refine WL.no rfl rfl rfl rfl ?_
        refine WL.no rfl rfl rfl rfl ?_
        refine pkT rfl rfl rfl ?_
        refine mv rfl rfl ?_
        refine WL.no rfl rfl rfl rfl ?_
        refine WL.no rfl rfl rfl rfl ?_
        refine WL.no rfl rfl rfl rfl ?_
        refine WL.no rfl rfl rfl rfl ?_
        refine pkT rfl rfl rfl ?_
        refine WL.del 0 ?_
        refine WL.nil ?_
        exact (kj224 ⟨s182, true⟩ _ lj224 (Option.some.inj hj224)).sub ⟨rfl, rfl, rfl, rfl, trivial⟩
      refine WL.rb 93 rfl (bF k226) ?_
      refine WL.on rfl rfl ?_
      refine fa fl29_2 rfl rfl ?_
      refine WL.on rfl rfl ?_
      refine ld 0 na3 rfl rfl rfl rfl ?_
      refine WL.on rfl rfl ?_
      refine mv rfl rfl ?_
      refine WL.on rfl rfl ?_
      refine ne rfl rfl rfl ?_
      refine pkF rfl rfl rfl ?_
      refine mv rfl rfl ?_
      rcases spl hj224 with ⟨k227, hj224⟩ | ⟨k227, hj224⟩
      · skip
        refine WL.rb 99 rfl (bT k227) ?_
        refine WL.no rfl rfl rfl rfl ?_
        refine WL.no rfl rfl rfl rfl ?_
        refine WL.no rfl rfl rfl rfl ?_
        refine WL.no rfl rfl rfl rfl ?_
        refine pkT rfl rfl rfl ?_
        refine WL.del 0 ?_
        refine WL.nil ?_
        exact (kj224 ⟨s182, true⟩ _ lj224 (Option.some.inj hj224)).sub ⟨rfl, rfl, rfl, rfl, trivial⟩
      refine WL.rb 99 rfl (bF k227) ?_
      refine WL.on rfl rfl ?_
      refine mv rfl rfl ?_
      refine WL.on rfl rfl ?_
      refine WL.front 1 ?_
      obtain ⟨⟨x228, s229⟩, e230, hj224⟩ := bnd hj224
      refine call cl11 rfl rfl (W11 e230) (fun _ J231 _ hJ232 q233 => ?_)
      have hI := hI.trans hJ232
      have lj224 := lj224.trans hJ232
      replace h201 := h201.up hJ232
      obtain ⟨rfl, rfl⟩ := q233
      refine WL.on rfl rfl ?_
      refine mv rfl rfl ?_
      refine WL.on rfl rfl ?_
      refine ne rfl rfl rfl ?_
      refine pkF rfl rfl rfl ?_
      refine WL.del 1 ?_
      refine WL.nil ?_
      exact (kj224 ⟨s229, (decide (x228 ≠ (w64 (1 + x8))))⟩ _ lj224 (Option.some.inj hj224)).sub ⟨rfl, rfl, rfl, rfl, trivial⟩
    refine WL.rb 89 rfl (bf1n k225) ?_
    refine WL.no rfl rfl rfl rfl ?_
    refine WL.no rfl rfl rfl rfl ?_
    refine pkT rfl rfl rfl ?_
    refine mv rfl rfl ?_
    refine WL.no rfl rfl rfl rfl ?_
    refine WL.no rfl rfl rfl rfl ?_
    refine WL.no rfl rfl rfl rfl ?_
    refine WL.no rfl rfl rfl rfl ?_
    refine pkT rfl rfl rfl ?_
    refine mv rfl rfl ?_
    refine WL.no rfl rfl rfl rfl ?_
    refine WL.no rfl rfl rfl rfl ?_
    refine WL.no rfl rfl rfl rfl ?_
    refine WL.no rfl rfl rfl rfl ?_
    refine pkT rfl rfl rfl ?_
    refine WL.del 0 ?_
    refine WL.nil ?_
    exact (kj224 ⟨s182, true⟩ _ lj224 (Option.some.inj hj224)).sub ⟨rfl, rfl, rfl, rfl, trivial⟩
  rintro ⟨s222, x223⟩ J234 hJ235 rfl
  have hI := hI.trans hJ235
  refine WX.then_ ?_
  refine WC.iteb rfl h (fun k236 h => ?_) (fun k236 h => ?_)
  · skip
    refine WC.seq ?_
    refine WC.region ?_
    refine asg rfl rfl ?_
    refine WL.del 0 ?_
    refine WL.next ?_
    refine WC.ret ?_
    refine WX.then_ret ?_
    cases h
    exact ret1 Try.results4 rfl hI ⟨rfl, rfl⟩
  refine WC.skip ?_
  refine WX.then_ ?_
  refine WC.seq ?_
  refine WC.seq ?_
  refine WC.region ?_
  refine asg rfl rfl ?_
  refine WL.next ?_
  obtain ⟨j365, hj365, h⟩ := bnd h
  refine WC.joinQ (σ := net_Net) (fun s364 => [(0, (.int .i64 (w64 (1 + x8)))), (5, (.pointer (some ⟨g6, 0, none⟩)))]) (fun s364 => Ob_net_Net g6 s364 :: G) (fun s364 J => Sum.inr s364 = j365) (fun kj365 => ?_) ?_
  · skip
    have lj365 := Mem.le.refl J234
    refine WC.block ?_
    refine WC.loop (σ := net_Net × Int) (fun k (s408, x409) => haulierlaw20_NetOrder_l1 x8 x13 k s408 x409) _ (fun (s408, x409) => [(0, (.int .i64 (w64 (1 + x8)))), (1, (.int .i64 x13)), (5, (.pointer (some ⟨g6, 0, none⟩))), (13, (.int .i64 x409))]) (fun (s408, x409) => Ob_net_Net g6 s408 :: G) (fun (s408, x409) J => True) (fun ⟨s408, x409⟩ => rfl) bigN ⟨s222, 0⟩ hj365 trivial ⟨rfl, rfl, rfl, rfl, trivial⟩ rfl ?_
    rintro k1 ih1 ⟨s408, x409⟩ J451 hJ452 - hj365
    change haulierlaw20_NetOrder_l1 x8 x13 (k1 + 1) s408 x409 = _ at hj365
    rw [haulierlaw20_NetOrder_l1] at hj365
    have hI := hI.trans hJ452
    have lj365 := lj365.trans hJ452
    have ll1 := hJ452
    refine WC.seq ?_
    refine WC.seq ?_
    refine WC.region ?_
    refine mv rfl rfl ?_
    refine mv rfl rfl ?_
    refine lt rfl rfl rfl ?_
    refine WL.next ?_
    refine WC.ite rfl hj365 (fun k453 hj365 => ?_) (fun k453 hj365 => ?_)
    · skip
      refine WC.skip ?_
      refine WX.then_ ?_
      refine WC.seq ?_
      refine WC.block ?_
      refine WC.seq ?_
      refine WC.region ?_
      refine mv rfl rfl ?_
      refine asg rfl rfl ?_
      refine WL.next ?_
      refine WC.seq ?_
      refine WC.seq ?_
      refine WC.region ?_
      refine mv rfl rfl ?_
      refine mv rfl rfl ?_
      refine ge rfl rfl rfl ?_
      refine WL.next ?_
      obtain ⟨j456, hj456, hj365⟩ := bnd hj365
      refine WC.joinQ (σ := Int) (fun x455 => [(0, (.int .i64 (w64 (1 + x8)))), (1, (.int .i64 x13)), (5, (.pointer (some ⟨g6, 0, none⟩))), (13, (.int .i64 x409)), (14, (.int .i64 x455))]) (fun x455 => Ob_net_Net g6 s408 :: G) (fun x455 J => x455 = j456) (fun kj456 => ?_) ?_
      · skip
        have lj456 := Mem.le.refl J451
        refine WC.ite rfl hj456 (fun k457 hj456 => ?_) (fun k457 hj456 => ?_)
        · skip
          refine WC.region ?_
          refine mv rfl rfl ?_
          refine ad rfl rfl rfl ?_
          refine asg rfl rfl ?_
          refine WL.nil ?_
          exact (kj456 (w64 (x409 + 1)) _ lj456 (Option.some.inj hj456)).sub ⟨rfl, rfl, rfl, rfl, rfl, trivial⟩
        refine WC.skip ?_
        exact (kj456 x409 _ lj456 (Option.some.inj hj456)).sub ⟨rfl, rfl, rfl, rfl, rfl, trivial⟩
      rintro x455 J458 hJ459 rfl
      have hI := hI.trans hJ459
      have lj365 := lj365.trans hJ459
      have ll1 := ll1.trans hJ459
      refine WX.then_ ?_
      refine WC.seq ?_
      refine WC.seq ?_
      refine WC.region ?_
      refine mv rfl rfl ?_
      refine mv rfl rfl ?_
      refine su rfl rfl rfl ?_
      refine eq rfl rfl rfl ?_
      refine WL.next ?_
      obtain ⟨j462, hj462, hj365⟩ := bnd hj365
      refine WC.joinQ (σ := Int) (fun x461 => [(0, (.int .i64 (w64 (1 + x8)))), (1, (.int .i64 x13)), (5, (.pointer (some ⟨g6, 0, none⟩))), (13, (.int .i64 x409)), (14, (.int .i64 x461))]) (fun x461 => Ob_net_Net g6 s408 :: G) (fun x461 J => x461 = j462) (fun kj462 => ?_) ?_
      · skip
        have lj462 := Mem.le.refl J458
        refine WC.ite rfl hj462 (fun k463 hj462 => ?_) (fun k463 hj462 => ?_)
        · skip
          refine WC.region ?_
          refine mv rfl rfl ?_
          refine asg rfl rfl ?_
          refine WL.nil ?_
          exact (kj462 x13 _ lj462 (Option.some.inj hj462)).sub ⟨rfl, rfl, rfl, rfl, rfl, trivial⟩
        refine WC.skip ?_
        exact (kj462 x455 _ lj462 (Option.some.inj hj462)).sub ⟨rfl, rfl, rfl, rfl, rfl, trivial⟩
      rintro x461 J464 hJ465 rfl
      have hI := hI.trans hJ465
      have lj365 := lj365.trans hJ465
      have ll1 := ll1.trans hJ465
      refine WX.then_ ?_
      refine WC.seq ?_
      refine WC.region ?_
      refine mv rfl rfl ?_
      refine mv rfl rfl ?_
      obtain ⟨⟨x466, x467, s468⟩, e469, hj365⟩ := bnd hj365
      refine call cl8 rfl rfl (W8 e469) (fun _ J470 _ hJ471 q472 => ?_)
      have hI := hI.trans hJ471
      have lj365 := lj365.trans hJ471
      have ll1 := ll1.trans hJ471
      obtain ⟨a473, c474, rfl, rfl⟩ := q472
      refine mv rfl rfl ?_
      refine ex rfl rfl rfl ?_
      refine ex rfl rfl rfl ?_
      refine asg rfl rfl ?_
      refine asg rfl rfl ?_
      refine WL.next ?_
      refine WC.seq ?_
      refine WC.region ?_
      refine mv rfl rfl ?_
      refine WL.freeze (fun J476 hJ477 h478 => ?_)
      have hI := hI.trans hJ477
      have lj365 := lj365.trans hJ477
      have ll1 := ll1.trans hJ477
      obtain ⟨⟨x479, x480⟩, e481, hj365⟩ := bnd hj365
      refine call cl14 rfl rfl (W14 e481 h478) (fun _ J482 _ hJ483 q484 => ?_)
      have hI := hI.trans hJ483
      have lj365 := lj365.trans hJ483
      have ll1 := ll1.trans hJ483
      replace h478 := h478.up hJ483
      obtain ⟨a485, c486, rfl, h487, rfl⟩ := q484
      refine mv rfl rfl ?_
      refine ex rfl rfl rfl ?_
      refine ex rfl rfl rfl ?_
      refine al Try.zeroValue29 rfl (fun g488 => ?_)
      refine sta (C' := #[(.int .i64 x479.Kind), (.int .i64 x479.Path), (.int .i64 x479.Number), (.int .i64 x479.Of), (.int .i64 x479.From), (.slice a485 x479.Data.length c486), (.bool x479.Fin), (.int .i64 x479.Seen), (.int .i64 x479.Limit)]) sz29 rfl rfl rfl rfl rfl rfl ?_
      refine asg rfl rfl ?_
      refine WL.next ?_
      refine WC.seq ?_
      refine WC.region ?_
      refine mv rfl rfl ?_
      refine nt rfl rfl ?_
      refine mv rfl rfl ?_
      rcases spl hj365 with ⟨k490, hj365⟩ | ⟨k490, hj365⟩
      · skip
        refine WL.rb 134 rfl (bt1n k490) ?_
        refine WL.on rfl rfl ?_
        refine mv rfl rfl ?_
        refine WL.on rfl rfl ?_
        refine ne rfl rfl rfl ?_
        refine pkF rfl rfl rfl ?_
        refine mv rfl rfl ?_
        rcases spl hj365 with ⟨k491, hj365⟩ | ⟨k491, hj365⟩
        · skip
          refine WL.rb 138 rfl (bT k491) ?_
          refine WL.no rfl rfl rfl rfl ?_
          refine WL.no rfl rfl rfl rfl ?_
          refine WL.no rfl rfl rfl rfl ?_
          refine WL.no rfl rfl rfl rfl ?_
          refine pkT rfl rfl rfl ?_
          refine WL.del 0 ?_
          refine WL.next ?_
          refine WC.cond rfl (fun _ => ?_) (fun k => by cases k)
          refine WC.seq ?_
          refine WC.region ?_
          refine asg rfl rfl ?_
          refine WL.del 0 ?_
          refine WL.next ?_
          refine WC.ret ?_
          refine WX.block_ret ?_
          refine WX.then_ret ?_
          refine WX.then_ret ?_
          refine WX.block_ret ?_
          refine WX.then_ret ?_
          cases hj365
          replace h : some _ = some _ := h
          cases h
          exact ret1 Try.results4 rfl hI ⟨rfl, rfl⟩
        refine WL.rb 138 rfl (bF k491) ?_
        refine WL.on rfl rfl ?_
        refine fa fl29_2 rfl rfl ?_
        refine WL.on rfl rfl ?_
        refine ld 0 na3 rfl rfl rfl rfl ?_
        refine WL.on rfl rfl ?_
        refine mv rfl rfl ?_
        refine WL.on rfl rfl ?_
        refine ne rfl rfl rfl ?_
        refine pkF rfl rfl rfl ?_
        refine WL.next ?_
        refine WC.ite rfl hj365 (fun k492 hj365 => ?_) (fun k492 hj365 => ?_)
        · skip
          refine WC.seq ?_
          refine WC.region ?_
          refine asg rfl rfl ?_
          refine WL.del 0 ?_
          refine WL.del 0 ?_
          refine WL.next ?_
          refine WC.ret ?_
          refine WX.block_ret ?_
          refine WX.then_ret ?_
          refine WX.then_ret ?_
          refine WX.block_ret ?_
          refine WX.then_ret ?_
          cases hj365
          replace h : some _ = some _ := h
          cases h
          exact ret1 Try.results4 rfl hI ⟨rfl, rfl⟩
        refine WC.skip ?_
        refine WX.block_normal ?_
        refine WX.then_ ?_
        refine WC.region ?_
        refine mv rfl rfl ?_
        refine ad rfl rfl rfl ?_
        refine asg rfl rfl ?_
        refine WL.nil ?_
        refine WX.front 1 ?_
        refine WX.del 1 ?_
        refine WX.round ?_
        exact (ih1 ⟨s468, w64 (x409 + 1)⟩ _ ll1 trivial hj365).sub ⟨rfl, rfl, rfl, rfl, trivial⟩
      refine WL.rb 134 rfl (bf1n k490) ?_
      refine WL.no rfl rfl rfl rfl ?_
      refine WL.no rfl rfl rfl rfl ?_
      refine pkT rfl rfl rfl ?_
      refine mv rfl rfl ?_
      refine WL.no rfl rfl rfl rfl ?_
      refine WL.no rfl rfl rfl rfl ?_
      refine WL.no rfl rfl rfl rfl ?_
      refine WL.no rfl rfl rfl rfl ?_
      refine pkT rfl rfl rfl ?_
      refine WL.del 0 ?_
      refine WL.next ?_
      refine WC.cond rfl (fun _ => ?_) (fun k => by cases k)
      refine WC.seq ?_
      refine WC.region ?_
      refine asg rfl rfl ?_
      refine WL.del 0 ?_
      refine WL.next ?_
      refine WC.ret ?_
      refine WX.block_ret ?_
      refine WX.then_ret ?_
      refine WX.then_ret ?_
      refine WX.block_ret ?_
      refine WX.then_ret ?_
      cases hj365
      replace h : some _ = some _ := h
      cases h
      exact ret1 Try.results4 rfl hI ⟨rfl, rfl⟩
    refine WC.exit ?_
    refine WX.then_exit ?_
    refine WX.then_exit ?_
    refine WX.block_here ?_
    exact (kj365 s408 _ lj365 (Option.some.inj hj365)).sub ⟨rfl, rfl, trivial⟩
  rintro s364 J493 hJ494 rfl
  have hI := hI.trans hJ494
  refine WX.then_ ?_
  refine WC.seq ?_
  refine WC.region ?_
  refine mv rfl rfl ?_
  refine mv rfl rfl ?_
  obtain ⟨⟨x495, x496, s497⟩, e498, h⟩ := bnd h
  refine call cl9 rfl rfl (W9 e498) (fun _ J499 _ hJ500 q501 => ?_)
  have hI := hI.trans hJ500
  obtain ⟨a502, c503, rfl, rfl⟩ := q501
  refine mv rfl rfl ?_
  refine ex rfl rfl rfl ?_
  refine ex rfl rfl rfl ?_
  refine asg rfl rfl ?_
  refine asg rfl rfl ?_
  refine WL.del 0 ?_
  refine WL.next ?_
  refine WC.seq ?_
  refine WC.region ?_
  refine mv rfl rfl ?_
  obtain ⟨⟨x505, x506, s507⟩, e508, h⟩ := bnd h
  refine call cl8 rfl rfl (W8 e508) (fun _ J509 _ hJ510 q511 => ?_)
  have hI := hI.trans hJ510
  obtain ⟨a512, c513, rfl, rfl⟩ := q511
  refine mv rfl rfl ?_
  refine ex rfl rfl rfl ?_
  refine ex rfl rfl rfl ?_
  refine asg rfl rfl ?_
  refine asg rfl rfl ?_
  refine WL.del 0 ?_
  refine WL.next ?_
  refine WC.seq ?_
  refine WC.region ?_
  refine mv rfl rfl ?_
  refine nt rfl rfl ?_
  refine mv rfl rfl ?_
  rcases spl h with ⟨k515, h⟩ | ⟨k515, h⟩
  · skip
    refine WL.rb 157 rfl (bt1n k515) ?_
    refine WL.no rfl rfl rfl rfl ?_
    refine WL.no rfl rfl rfl rfl ?_
    refine pkF rfl rfl rfl ?_
    refine mv rfl rfl ?_
    refine WL.no rfl rfl rfl rfl ?_
    refine WL.no rfl rfl rfl rfl ?_
    refine WL.no rfl rfl rfl rfl ?_
    refine WL.no rfl rfl rfl rfl ?_
    refine pkF rfl rfl rfl ?_
    refine mv rfl rfl ?_
    refine WL.no rfl rfl rfl rfl ?_
    refine WL.no rfl rfl rfl rfl ?_
    refine WL.no rfl rfl rfl rfl ?_
    refine WL.no rfl rfl rfl rfl ?_
    refine pkF rfl rfl rfl ?_
    refine mv rfl rfl ?_
    refine WL.no rfl rfl rfl rfl ?_
    refine pkF rfl rfl rfl ?_
    refine asg rfl rfl ?_
    refine WL.del 0 ?_
    refine WL.next ?_
    refine WC.ret ?_
    cases h
    exact ret1 Try.results4 rfl hI ⟨rfl, rfl⟩
  refine WL.rb 157 rfl (bf1n k515) ?_
  refine WL.on rfl rfl ?_
  refine mv rfl rfl ?_
  refine WL.on rfl rfl ?_
  refine nt rfl rfl ?_
  refine pkT rfl rfl rfl ?_
  refine mv rfl rfl ?_
  rcases spl h with ⟨k516, h⟩ | ⟨k516, h⟩
  · skip
    refine WL.rb 161 rfl (bt1n k516) ?_
    refine WL.no rfl rfl rfl rfl ?_
    refine WL.no rfl rfl rfl rfl ?_
    refine WL.no rfl rfl rfl rfl ?_
    refine WL.no rfl rfl rfl rfl ?_
    refine pkF rfl rfl rfl ?_
    refine mv rfl rfl ?_
    refine WL.no rfl rfl rfl rfl ?_
    refine WL.no rfl rfl rfl rfl ?_
    refine WL.no rfl rfl rfl rfl ?_
    refine WL.no rfl rfl rfl rfl ?_
    refine pkF rfl rfl rfl ?_
    refine mv rfl rfl ?_
    refine WL.no rfl rfl rfl rfl ?_
    refine pkF rfl rfl rfl ?_
    refine asg rfl rfl ?_
    refine WL.del 0 ?_
    refine WL.next ?_
    refine WC.ret ?_
    cases h
    exact ret1 Try.results4 rfl hI ⟨rfl, rfl⟩
  refine WL.rb 161 rfl (bf1n k516) ?_
  refine WL.on rfl rfl ?_
  refine mv rfl rfl ?_
  refine WL.on rfl rfl ?_
  refine mv rfl rfl ?_
  refine WL.on rfl rfl ?_
  obtain ⟨⟨x517, s518⟩, e519, h⟩ := bnd h
  refine call cl10 rfl rfl (W10 e519) (fun _ J520 _ hJ521 q522 => ?_)
  have hI := hI.trans hJ521
  obtain ⟨rfl, rfl⟩ := q522
  refine WL.on rfl rfl ?_
  refine nt rfl rfl ?_
  refine pkT rfl rfl rfl ?_
  refine mv rfl rfl ?_
  rcases spl h with ⟨k523, h⟩ | ⟨k523, h⟩
  · skip
    refine WL.rb 167 rfl (bt1n k523) ?_
    refine WL.no rfl rfl rfl rfl ?_
    refine WL.no rfl rfl rfl rfl ?_
    refine WL.no rfl rfl rfl rfl ?_
    refine WL.no rfl rfl rfl rfl ?_
    refine pkF rfl rfl rfl ?_
    refine mv rfl rfl ?_
    refine WL.no rfl rfl rfl rfl ?_
    refine pkF rfl rfl rfl ?_
    refine asg rfl rfl ?_
    refine WL.del 0 ?_
    refine WL.next ?_
    refine WC.ret ?_
    cases h
    exact ret1 Try.results4 rfl hI ⟨rfl, rfl⟩
  refine WL.rb 167 rfl (bf1n k523) ?_
  refine WL.on rfl rfl ?_
  refine mv rfl rfl ?_
  refine WL.on rfl rfl ?_
  refine mv rfl rfl ?_
  refine WL.on rfl rfl ?_
  obtain ⟨⟨x524, s525⟩, e526, h⟩ := bnd h
  refine call cl12 rfl rfl (W12 e526) (fun _ J527 _ hJ528 q529 => ?_)
  have hI := hI.trans hJ528
  obtain ⟨rfl, rfl⟩ := q529
  refine WL.on rfl rfl ?_
  refine nt rfl rfl ?_
  refine pkT rfl rfl rfl ?_
  refine mv rfl rfl ?_
  rcases spl h with ⟨k530, h⟩ | ⟨k530, h⟩
  · skip
    refine WL.rb 173 rfl (bt1n k530) ?_
    refine WL.no rfl rfl rfl rfl ?_
    refine pkF rfl rfl rfl ?_
    refine asg rfl rfl ?_
    refine WL.del 0 ?_
    refine WL.next ?_
    refine WC.ret ?_
    cases h
    exact ret1 Try.results4 rfl hI ⟨rfl, rfl⟩
  refine WL.rb 173 rfl (bf1n k530) ?_
  refine WL.on rfl rfl ?_
  obtain ⟨x531, e532, h⟩ := bnd h
  refine call cl13 rfl rfl (W13 e532) (fun _ J533 _ hJ534 q535 => ?_)
  have hI := hI.trans hJ534
  obtain ⟨rfl, rfl⟩ := q535
  refine pkT rfl rfl rfl ?_
  refine asg rfl rfl ?_
  refine WL.del 0 ?_
  refine WL.next ?_
  refine WC.ret ?_
  cases h
  exact ret1 Try.results4 rfl hI ⟨rfl, rfl⟩
end Go.Proofs.Ytcfapdamgbbklaa
