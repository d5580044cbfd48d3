/- Printed by a program of this session: walks of Go functions. -/
import Derived.Test.YtcfapdamgbbklaaKf
import Derived.Test.YtcfapdamgbbklaaDf
import Derived.Test.YtcfapdamgbbklaaK0
namespace Go.Proofs.Ytcfapdamgbbklaa
set_option linter.unusedVariables false
set_option maxRecDepth 10000
set_option maxHeartbeats 2000000
theorem W35 {I : Mem} {G : List Asn} {p0 : Int} {r : (List UInt8)} (h : vint_Put p0 = some r) :
    CallsS Try.prog 35 #[.int .i64 p0] I (G) (fun v J G' => ∃ ra0 rc0, v = .slice ra0 r.length rc0 ∧ OV 5 (.slice ra0 r.length rc0) r :: G = G') := by
  refine CallsS.enter Try.func35 rfl Try.ntmps35 rfl (fun w0 => ?_)
  have hI := Mem.le.refl I
  unfold vint_Put at h
  refine WC.seq ?_
  refine WC.region ?_
  refine asg rfl rfl ?_
  refine WL.next ?_
  refine WC.seq ?_
  refine WC.region ?_
  refine mv rfl rfl ?_
  obtain ⟨x1, e2, h⟩ := bnd h
  refine call cl46 rfl rfl (W46 e2) (fun _ J3 _ hJ4 q5 => ?_)
  have hI := hI.trans hJ4
  obtain ⟨rfl, rfl⟩ := q5
  refine asg rfl rfl ?_
  refine WL.next ?_
  refine WC.seq ?_
  refine WC.region ?_
  refine asg rfl rfl ?_
  refine WL.next ?_
  refine WC.seq ?_
  refine WC.seq ?_
  refine WC.region ?_
  refine mv rfl rfl ?_
  refine su rfl rfl rfl ?_
  refine asg rfl rfl ?_
  refine WL.next ?_
  refine WC.block ?_
  refine WC.own_nil UInt8 5 ?_
  refine WC.loop (σ := (List UInt8) × Int × (Option Addr) × Nat) (fun k (x7, x10, a8, c9) => vint_Put_l0 p0 x1 k x7 x10) _ (fun (x7, x10, a8, c9) => [(0, (.int .i64 p0)), (3, (.int .i64 x1)), (4, (.slice a8 x7.length c9)), (5, (.int .i64 x10))]) (fun (x7, x10, a8, c9) => OV 5 (.slice a8 x7.length c9) x7 :: G) (fun (x7, x10, a8, c9) J => True) (fun ⟨x7, x10, a8, c9⟩ => rfl) bigN ⟨([] : List UInt8), w64 (x1 - 1), _, _⟩ h trivial ⟨rfl, rfl, rfl, rfl, trivial⟩ rfl ?_
  rintro k0 ih0 ⟨x7, x10, a8, c9⟩ J22 hJ23 - h
  change vint_Put_l0 p0 x1 (k0 + 1) x7 x10 = _ at h
  rw [vint_Put_l0] at h
  have hI := hI.trans hJ23
  have ll0 := hJ23
  refine WC.seq ?_
  refine WC.seq ?_
  refine WC.region ?_
  refine mv rfl rfl ?_
  refine ge rfl rfl rfl ?_
  refine WL.next ?_
  refine WC.ite rfl h (fun k24 h => ?_) (fun k24 h => ?_)
  · skip
    refine WC.skip ?_
    refine WX.then_ ?_
    refine WC.seq ?_
    refine WC.block ?_
    refine WC.region ?_
    refine mv rfl rfl ?_
    refine mv rfl rfl ?_
    refine mv rfl rfl ?_
    refine mu rfl rfl rfl ?_
    obtain ⟨k25, h⟩ := chk h
    refine sr k25 rfl rfl rfl ?_
    refine cv8 Try.underlying3 Try.underlying5 rfl rfl ?_
    refine bs (os := [.tmp 19]) (xs := ([(u8of (sr64 p0 (w64 (8 * x10))))] : List UInt8)) et27 rfl rfl ⟨(Rv.of_u8 _ (u8of (sr64 p0 (w64 (8 * x10))))), trivial⟩ rfl rfl rfl rfl (fun a26 c27 => ?_)
    refine WL.front 1 ?_
    obtain ⟨k29, h⟩ := chk h
    obtain ⟨x32, e33, h⟩ := bnd h
    refine ap et27 rfl rfl ((OV.rd 1 rfl)) k29 rfl (fun a30 c31 => ?_)
    refine WL.ren (Option.some.inj e33) ?_
    refine asg rfl rfl ?_
    refine WL.del 1 ?_
    refine WL.nil ?_
    refine WX.block_normal ?_
    refine WX.then_ ?_
    refine WC.region ?_
    refine mv rfl rfl ?_
    refine su rfl rfl rfl ?_
    refine asg rfl rfl ?_
    refine WL.nil ?_
    refine WX.round ?_
    exact (ih0 ⟨x32, w64 (x10 - 1), _, _⟩ _ ll0 trivial h).sub ⟨rfl, rfl, rfl, rfl, trivial⟩
  refine WC.exit ?_
  refine WX.then_exit ?_
  refine WX.then_exit ?_
  refine WX.block_here ?_
  refine WX.then_ ?_
  refine WC.seq ?_
  refine WC.seq ?_
  refine WC.region ?_
  refine mv rfl rfl ?_
  refine gt rfl rfl rfl ?_
  refine WL.next ?_
  refine WC.ite rfl h (fun k34 h => ?_) (fun k34 h => ?_)
  · skip
    refine WC.sub (r := [(3, (.int .i64 x1)), (4, (.slice a8 x7.length c9))]) ?_ ⟨rfl, rfl, trivial⟩
    obtain ⟨k35, h⟩ := chk h
    obtain ⟨z40, e41, h⟩ := bnd h
    obtain ⟨x42, e43, h⟩ := bnd h
    obtain ⟨k47, h⟩ := chk h
    obtain ⟨x50, e51, h⟩ := bnd h
    refine WC.drawn mo (nthL [[], [0], [0, 1], [], [3], [0, 1, 2, 3, 4], [0, 1, 2, 3, 4, 5], [0, 1, 2, 3, 4, 5, 6]]) (nthL [[], [0], [1], [], [3], [2, 4], [0], [5, 6]]) (nthK [.val (.slice a8 x7.length c9), .of (fun v _ => At UInt8 (.slice a8 x7.length c9) (0 : Int).toNat v) (fun _ h => h), .val (.int .u8 (z40.toNat : Int)), .val (.int .i64 x1), .val (.int .u8 (x42.toNat : Int)), .val (.int .u8 ((z40 ||| x42).toNat : Int)), .of (fun v _ => At UInt8 (.slice a8 x7.length c9) (0 : Int).toNat v) (fun _ h => h), .any]) [⟨none, (some 7), [1, 2, 6], [], fun _ => OV 5 (.slice a8 x7.length c9) x7⟩, ⟨(some 7), none, [], [], fun _ => OV 5 (.slice a8 x50.length c9) x50⟩] (by kernel_rfl) (by kernel_rfl) (by kernel_rfl) (H := G) rfl ⟨?_, ?_, ?_, ?_, ?_, ?_, ?_, ?_, trivial⟩ ?_
    · intro Q ρ I1 H hI1 hk hpost
      have hc := Mem.le.refl I1
      refine mv rfl rfl ?_
      refine WL.nil ?_
      exact hpost _ _ hc rfl _ (fun _ hd => by obtain rfl := Option.some.inj hd; exact ⟨rfl, trivial⟩)
    · intro Q ρ I1 H hI1 hk hpost
      obtain ⟨_, -⟩ := hk
      have hc := Mem.le.refl I1
      refine ixo 0 et27 rfl rfl rfl k35 rfl (fun uv36 h37 => ?_)
      refine WL.nil ?_
      exact hpost _ _ hc h37 _ (fun _ hd => by obtain rfl := Option.some.inj hd; exact ⟨rfl, trivial⟩)
    · intro Q ρ I1 H hI1 hk hpost
      obtain ⟨k1, -⟩ := hk
      have hc := Mem.le.refl I1
      refine ldo (α := UInt8) 0 na5 rfl k1 rfl e41 rfl (fun uv38 h39 => ?_)
      obtain rfl := h39.u8
      refine WL.nil ?_
      exact hpost _ _ hc rfl _ (fun _ hd => by obtain rfl := Option.some.inj hd; exact ⟨rfl, trivial⟩)
    · intro Q ρ I1 H hI1 hk hpost
      have hc := Mem.le.refl I1
      refine mv rfl rfl ?_
      refine WL.nil ?_
      exact hpost _ _ hc rfl _ (fun _ hd => by obtain rfl := Option.some.inj hd; exact ⟨rfl, trivial⟩)
    · intro Q ρ I1 H hI1 hk hpost
      obtain ⟨_, -⟩ := hk
      have hc := Mem.le.refl I1
      refine call cl47 rfl rfl (W47 e43) (fun _ J44 _ hJ45 q46 => ?_)
      have hc := hc.trans hJ45
      obtain ⟨rfl, rfl⟩ := q46
      refine WL.nil ?_
      exact hpost _ _ hc rfl _ (fun _ hd => by obtain rfl := Option.some.inj hd; exact ⟨rfl, trivial⟩)
    · intro Q ρ I1 H hI1 hk hpost
      obtain ⟨_, _, -⟩ := hk
      have hc := Mem.le.refl I1
      refine or8 (a := z40) (b := x42) rfl rfl rfl rfl rfl ?_
      refine WL.nil ?_
      exact hpost _ _ hc rfl _ (fun _ hd => by obtain rfl := Option.some.inj hd; exact ⟨rfl, trivial⟩)
    · intro Q ρ I1 H hI1 hk hpost
      obtain ⟨_, -⟩ := hk
      have hc := Mem.le.refl I1
      refine ixo 0 et27 rfl rfl rfl k47 rfl (fun uv48 h49 => ?_)
      refine WL.nil ?_
      exact hpost _ _ hc h49 _ (fun _ hd => by obtain rfl := Option.some.inj hd; exact ⟨rfl, trivial⟩)
    · intro Q ρ I1 H hI1 hk hpost
      obtain ⟨_, k6, -⟩ := hk
      have hc := Mem.le.refl I1
      refine sto2 (α := UInt8) (z := (z40 ||| x42)) sz5 rfl rfl k6 (ilt k47) (Rv.of_u8 _ (z40 ||| x42)) (Option.some.inj e51) ?_
      refine WL.nil ?_
      exact hpost undef _ hc trivial _ (fun _ hd => by cases hd)
    rintro ρ J52 hJ53 -
    refine WX.sub (r := [(4, (.slice a8 x7.length c9))]) ?_ ⟨rfl, trivial⟩
    refine WX.is (H := OV 5 (.slice a8 x50.length c9) x50 :: G) rfl ?_
    have hI := hI.trans hJ53
    have ll0 := ll0.trans hJ53
    refine WX.rb 4 rfl (u := (.slice a8 x50.length c9)) (by rw [← Option.some.inj e51, List.length_set]; first | done | rfl) ?_
    refine WX.then_ ?_
    refine WC.seq ?_
    refine WC.region ?_
    refine mv rfl rfl ?_
    refine asg rfl rfl ?_
    refine WL.next ?_
    refine WC.ret ?_
    cases h
    exact ret1 Try.results35 rfl hI ⟨_, _, rfl, rfl⟩
  refine WC.skip ?_
  refine WX.then_ ?_
  refine WC.seq ?_
  refine WC.region ?_
  refine mv rfl rfl ?_
  refine asg rfl rfl ?_
  refine WL.next ?_
  refine WC.ret ?_
  cases h
  exact ret1 Try.results35 rfl hI ⟨_, _, rfl, rfl⟩
theorem W34 {I : Mem} {G : List Asn} {p0 : List (List UInt8)} {r : (List UInt8)} (h : slices_Concat_sbyte_byte p0 = some r) {u0 : Value} (hp0 : IV I u0 p0) :
    CallsS Try.prog 34 #[u0] I (G) (fun v J G' => ∃ ra0 rc0, v = .slice ra0 r.length rc0 ∧ OV 5 (.slice ra0 r.length rc0) r :: G = G') := by
  refine CallsS.enter Try.func34 rfl Try.ntmps34 rfl (fun w0 => ?_)
  have hI := Mem.le.refl I
  obtain ⟨a0, c0, rfl⟩ := hp0.hd
  unfold slices_Concat_sbyte_byte at h
  refine WC.seq ?_
  refine WC.region ?_
  refine asg rfl rfl ?_
  refine WL.next ?_
  refine WC.seq ?_
  refine WC.region ?_
  refine asg rfl rfl ?_
  refine WL.next ?_
  refine WC.seq ?_
  refine WC.seq ?_
  refine WC.region ?_
  refine mv rfl rfl ?_
  refine ln et74 rfl (hp0.rd) rfl ?_
  refine mv rfl rfl ?_
  refine WL.next ?_
  obtain ⟨j27, hj27, h⟩ := bnd h
  refine WC.joinQ (σ := Int) (fun x26 => [(0, (.slice a0 p0.length c0)), (3, (.int .i64 x26))]) (fun x26 => G) (fun x26 J => x26 = j27) (fun kj27 => ?_) ?_
  · skip
    have lj27 := Mem.le.refl I
    refine WC.block ?_
    refine WC.loop (σ := Int × Int) (fun k (x28, x29) => slices_Concat_sbyte_byte_l0 p0 k x28 x29) _ (fun (x28, x29) => [(0, (.slice a0 p0.length c0)), (3, (.int .i64 x28)), (9, (.slice a0 p0.length c0)), (10, (.int .i64 (p0.length : Int))), (11, (.int .i64 x29))]) (fun (x28, x29) => G) (fun (x28, x29) J => True) (fun ⟨x28, x29⟩ => rfl) bigN ⟨0, 0⟩ hj27 trivial ⟨rfl, rfl, rfl, rfl, rfl, trivial⟩ rfl ?_
    rintro k0 ih0 ⟨x28, x29⟩ J41 hJ42 - hj27
    change slices_Concat_sbyte_byte_l0 p0 (k0 + 1) x28 x29 = _ at hj27
    rw [slices_Concat_sbyte_byte_l0] at hj27
    have hI := hI.trans hJ42
    have lj27 := lj27.trans hJ42
    replace hp0 := hp0.up hJ42
    have ll0 := hJ42
    refine WC.seq ?_
    refine WC.region ?_
    refine lt rfl rfl rfl ?_
    refine WL.next ?_
    refine WC.seq ?_
    refine WC.ite rfl hj27 (fun k43 hj27 => ?_) (fun k43 hj27 => ?_)
    · skip
      refine WC.skip ?_
      refine WX.then_ ?_
      refine WC.seq ?_
      refine WC.block ?_
      refine WC.seq ?_
      refine WC.region ?_
      obtain ⟨z44, e45, hj27⟩ := bnd hj27
      refine ixi et74 rfl rfl hp0 e45 rfl (fun uv46 h47 => ?_)
      refine ldi (α := List UInt8) na27 rfl h47 rfl (fun uv48 h49 => ?_)
      replace h49 := h49.sl; obtain ⟨a50, c51, rfl⟩ := h49.hd
      refine asg rfl rfl ?_
      refine WL.next ?_
      refine WC.seq ?_
      refine WC.region ?_
      refine mv rfl rfl ?_
      refine mv rfl rfl ?_
      refine ln et27 rfl (h49.rd) rfl ?_
      refine ad rfl rfl rfl ?_
      refine asg rfl rfl ?_
      refine WL.next ?_
      refine WC.seq ?_
      refine WC.region ?_
      refine mv rfl rfl ?_
      refine lt rfl rfl rfl ?_
      refine WL.next ?_
      refine WC.ite rfl hj27 (fun k52 hj27 => ?_) (fun k52 hj27 => ?_)
      · skip
        refine WC.region ?_
        cases hj27
      refine WC.skip ?_
      refine WX.block_normal ?_
      refine WX.then_ ?_
      refine WC.region ?_
      refine ad rfl rfl rfl ?_
      refine mv rfl rfl ?_
      refine WL.nil ?_
      refine WX.round ?_
      exact (ih0 ⟨w64 (x28 + (z44.length : Int)), w64 (x29 + 1)⟩ _ ll0 trivial hj27).sub ⟨rfl, rfl, rfl, rfl, rfl, trivial⟩
    refine WC.exit ?_
    refine WX.then_exit ?_
    refine WX.then_exit ?_
    refine WX.block_here ?_
    exact (kj27 x28 _ lj27 (Option.some.inj hj27)).sub ⟨rfl, rfl, trivial⟩
  rintro x26 J53 hJ54 rfl
  have hI := hI.trans hJ54
  replace hp0 := hp0.up hJ54
  refine WX.then_ ?_
  refine WC.seq ?_
  refine WC.region ?_
  refine mv rfl rfl ?_
  obtain ⟨x55, e56, h⟩ := bnd h
  refine call cl45 rfl rfl (W45 e56) (fun _ J57 _ hJ58 q59 => ?_)
  have hI := hI.trans hJ58
  replace hp0 := hp0.up hJ58
  obtain ⟨a60, c61, rfl, rfl⟩ := q59
  refine asg rfl rfl ?_
  refine WL.next ?_
  refine WC.seq ?_
  refine WC.seq ?_
  refine WC.region ?_
  refine mv rfl rfl ?_
  refine ln et74 rfl (hp0.rd) rfl ?_
  refine mv rfl rfl ?_
  refine WL.next ?_
  refine WC.block ?_
  refine WC.loop (σ := (List UInt8) × Int × (Option Addr) × Nat) (fun k (x63, x66, a64, c65) => slices_Concat_sbyte_byte_l1 p0 k x63 x66) _ (fun (x63, x66, a64, c65) => [(6, (.slice a64 x63.length c65)), (25, (.slice a0 p0.length c0)), (26, (.int .i64 (p0.length : Int))), (27, (.int .i64 x66))]) (fun (x63, x66, a64, c65) => OV 5 (.slice a64 x63.length c65) x63 :: G) (fun (x63, x66, a64, c65) J => True) (fun ⟨x63, x66, a64, c65⟩ => rfl) bigN ⟨x55, 0, _, _⟩ h trivial ⟨rfl, rfl, rfl, rfl, trivial⟩ rfl ?_
  rintro k1 ih1 ⟨x63, x66, a64, c65⟩ J80 hJ81 - h
  change slices_Concat_sbyte_byte_l1 p0 (k1 + 1) x63 x66 = _ at h
  rw [slices_Concat_sbyte_byte_l1] at h
  have hI := hI.trans hJ81
  replace hp0 := hp0.up hJ81
  have ll1 := hJ81
  refine WC.seq ?_
  refine WC.region ?_
  refine lt rfl rfl rfl ?_
  refine WL.next ?_
  refine WC.seq ?_
  refine WC.ite rfl h (fun k82 h => ?_) (fun k82 h => ?_)
  · skip
    refine WC.skip ?_
    refine WX.then_ ?_
    refine WC.seq ?_
    refine WC.block ?_
    refine WC.seq ?_
    refine WC.region ?_
    obtain ⟨z83, e84, h⟩ := bnd h
    refine ixi et74 rfl rfl hp0 e84 rfl (fun uv85 h86 => ?_)
    refine ldi (α := List UInt8) na27 rfl h86 rfl (fun uv87 h88 => ?_)
    replace h88 := h88.sl; obtain ⟨a89, c90, rfl⟩ := h88.hd
    refine asg rfl rfl ?_
    refine WL.next ?_
    refine WC.region ?_
    refine mv rfl rfl ?_
    refine mv rfl rfl ?_
    obtain ⟨k91, h⟩ := chk h
    refine ap et27 rfl rfl (h88.rd) k91 rfl (fun a92 c93 => ?_)
    refine asg rfl rfl ?_
    refine WL.nil ?_
    refine WX.block_normal ?_
    refine WX.then_ ?_
    refine WC.region ?_
    refine ad rfl rfl rfl ?_
    refine mv rfl rfl ?_
    refine WL.nil ?_
    refine WX.round ?_
    exact (ih1 ⟨(x63 ++ z83), w64 (x66 + 1), _, _⟩ _ ll1 trivial h).sub ⟨rfl, rfl, rfl, rfl, trivial⟩
  refine WC.exit ?_
  refine WX.then_exit ?_
  refine WX.then_exit ?_
  refine WX.block_here ?_
  refine WX.then_ ?_
  refine WC.seq ?_
  refine WC.region ?_
  refine mv rfl rfl ?_
  refine asg rfl rfl ?_
  refine WL.next ?_
  refine WC.ret ?_
  cases h
  exact ret1 Try.results34 rfl hI ⟨_, _, rfl, rfl⟩
theorem W36 {I : Mem} {G : List Asn} {p0 : List UInt8} {r : (List UInt8)} (h : span_Pack p0 = some r) {u0 : Value} (hp0 : IV I u0 p0) :
    CallsS Try.prog 36 #[u0] I (G) (fun v J G' => ∃ ra0 rc0, v = .slice ra0 r.length rc0 ∧ OV 5 (.slice ra0 r.length rc0) r :: G = G') := by
  refine CallsS.enter Try.func36 rfl Try.ntmps36 rfl (fun w0 => ?_)
  have hI := Mem.le.refl I
  obtain ⟨a0, c0, rfl⟩ := hp0.hd
  unfold span_Pack at h
  refine WC.seq ?_
  refine WC.region ?_
  refine asg rfl rfl ?_
  refine WL.next ?_
  refine WC.seq ?_
  refine WC.region ?_
  refine mv rfl rfl ?_
  refine ln et27 rfl (hp0.rd) rfl ?_
  obtain ⟨x1, e2, h⟩ := bnd h
  refine call cl35 rfl rfl (W35 e2) (fun _ J3 _ hJ4 q5 => ?_)
  have hI := hI.trans hJ4
  replace hp0 := hp0.up hJ4
  obtain ⟨a6, c7, rfl, rfl⟩ := q5
  refine mv rfl rfl ?_
  refine WL.freeze (fun J12 hJ13 h14 => ?_)
  have hI := hI.trans hJ13
  replace hp0 := hp0.up hJ13
  refine bs (os := [.tmp 5, .tmp 6]) (xs := ([x1, p0] : List (List UInt8))) et74 rfl rfl ⟨(h14).rv, (hp0).rv, trivial⟩ rfl rfl rfl rfl (fun a9 c10 => ?_)
  refine WL.freeze (fun J15 hJ16 h17 => ?_)
  have hI := hI.trans hJ16
  replace hp0 := hp0.up hJ16; replace h14 := h14.up hJ16
  obtain ⟨x18, e19, h⟩ := bnd h
  refine call cl34 rfl rfl (W34 e19 h17) (fun _ J20 _ hJ21 q22 => ?_)
  have hI := hI.trans hJ21
  replace hp0 := hp0.up hJ21; replace h14 := h14.up hJ21; replace h17 := h17.up hJ21
  obtain ⟨a23, c24, rfl, rfl⟩ := q22
  refine asg rfl rfl ?_
  refine WL.next ?_
  refine WC.ret ?_
  cases h
  exact ret1 Try.results36 rfl hI ⟨_, _, rfl, rfl⟩
theorem W37 {I : Mem} {G : List Asn} {p0 : Bool} {r : UInt8} (h : packet_truth p0 = some r) :
    CallsS Try.prog 37 #[.bool p0] I (G) (fun v J G' => v = .int .u8 (r.toNat : Int) ∧ G = G') := by
  refine CallsS.enter Try.func37 rfl Try.ntmps37 rfl (fun w0 => ?_)
  have hI := Mem.le.refl I
  unfold packet_truth at h
  refine WC.seq ?_
  refine WC.region ?_
  refine asg rfl rfl ?_
  refine WL.next ?_
  refine WC.seq ?_
  refine WC.seq ?_
  refine WC.region ?_
  refine mv rfl rfl ?_
  refine WL.next ?_
  refine WC.iteb rfl h (fun k1 h => ?_) (fun k1 h => ?_)
  · skip
    refine WC.seq ?_
    refine WC.region ?_
    refine asg rfl rfl ?_
    refine WL.next ?_
    refine WC.ret ?_
    refine WX.then_ret ?_
    cases h
    exact ret1 Try.results37 rfl hI ⟨rfl, rfl⟩
  refine WC.skip ?_
  refine WX.then_ ?_
  refine WC.seq ?_
  refine WC.region ?_
  refine asg rfl rfl ?_
  refine WL.next ?_
  refine WC.ret ?_
  cases h
  exact ret1 Try.results37 rfl hI ⟨rfl, rfl⟩
theorem W26 {I : Mem} {G : List Asn} {p0 : api_Packet} {r : (List UInt8) × Int} (h : packet_Plain p0 = some r) {u0_5 : Value} (hp0_5 : IV I u0_5 p0.Data) :
    CallsS Try.prog 26 #[.agg #[(.int .i64 p0.Kind), (.int .i64 p0.Path), (.int .i64 p0.Number), (.int .i64 p0.Of), (.int .i64 p0.From), u0_5, (.bool p0.Fin), (.int .i64 p0.Seen), (.int .i64 p0.Limit)]] I (G) (fun v J G' => ∃ ra0 rc0, v = .tuple #[.slice ra0 r.1.length rc0, .int .i64 r.2] ∧ OV 5 (.slice ra0 r.1.length rc0) r.1 :: G = G') := by
  refine CallsS.enter Try.func26 rfl Try.ntmps26 rfl (fun w0 => ?_)
  have hI := Mem.le.refl I
  obtain ⟨a0_5, c0_5, rfl⟩ := hp0_5.hd
  unfold packet_Plain at h
  refine WC.seq ?_
  refine WC.region ?_
  refine bx rfl rfl rfl (fun g1 => ?_)
  refine asg rfl rfl ?_
  refine asg rfl rfl ?_
  refine WL.next ?_
  refine WC.seq ?_
  refine WC.seq ?_
  refine WC.region ?_
  refine lda 0 ya29 rfl rfl rfl rfl rfl ?_
  obtain ⟨x3, e4, h⟩ := bnd h
  refine call cl33 rfl rfl (W33 e4 hp0_5) (fun _ J5 _ hJ6 q7 => ?_)
  have hI := hI.trans hJ6
  replace hp0_5 := hp0_5.up hJ6
  obtain ⟨rfl, rfl⟩ := q7
  refine asg rfl rfl ?_
  refine WL.next ?_
  refine WC.seq ?_
  refine WC.region ?_
  refine mv rfl rfl ?_
  refine ne rfl rfl rfl ?_
  refine WL.next ?_
  refine WC.ite rfl h (fun k8 h => ?_) (fun k8 h => ?_)
  · skip
    refine WC.seq ?_
    refine WC.region ?_
    refine mv rfl rfl ?_
    refine asg rfl rfl ?_
    refine asg rfl rfl ?_
    refine WL.del 0 ?_
    refine WL.next ?_
    refine WC.ret ?_
    refine WX.then_ret ?_
    refine WX.own_nil UInt8 5 ?_
    cases h
    exact ret2 Try.results26 rfl rfl hI ⟨_, _, rfl, rfl⟩
  refine WC.skip ?_
  refine WX.then_ ?_
  refine WC.seq ?_
  refine WC.sub (r := [(1, (.pointer (some ⟨g1, 0, none⟩)))]) ?_ ⟨rfl, trivial⟩
  obtain ⟨x13, e14, h⟩ := bnd h
  obtain ⟨x21, e22, h⟩ := bnd h
  obtain ⟨x41, e42, h⟩ := bnd h
  obtain ⟨x46, e47, h⟩ := bnd h
  refine WC.drawn mo (nthL [[], [0], [0, 1], [0, 1, 2], [], [4], [4, 5], [], [7], [4, 5, 6, 7, 8], [0, 1, 2, 3, 4, 5, 6, 7, 8, 9], [0, 1, 2, 3, 4, 5, 6, 7, 8, 9, 10], [0, 1, 2, 3, 4, 5, 6, 7, 8, 9, 10, 11]]) (nthL [[], [0], [1], [2], [], [4], [5], [], [7], [8], [3, 6, 9], [10], [11]]) (nthK [.val (.pointer (some ⟨g1, 0, none⟩)), .val (.int .i64 p0.Kind), .val (.int .u8 ((u8of p0.Kind).toNat : Int)), .any, .val (.pointer (some ⟨g1, 1, none⟩)), .val (.int .i64 p0.Path), .any, .val (.pointer (some ⟨g1, 2, none⟩)), .val (.int .i64 p0.Number), .any, .any, .any, .any]) [⟨none, none, [1, 5, 8], [], fun _ => bl g1 #[(.int .i64 p0.Kind), (.int .i64 p0.Path), (.int .i64 p0.Number), (.int .i64 p0.Of), (.int .i64 p0.From), (.slice a0_5 p0.Data.length c0_5), (.bool p0.Fin), (.int .i64 p0.Seen), (.int .i64 p0.Limit)] 29⟩, ⟨(some 3), (some 10), [], [3], fun l => OV 5 (vget l 0) ([(u8of p0.Kind)] : List UInt8)⟩, ⟨(some 6), (some 10), [], [6], fun l => OV 5 (vget l 0) x13⟩, ⟨(some 9), (some 10), [], [9], fun l => OV 5 (vget l 0) x21⟩, ⟨(some 10), (some 11), [], [10], fun l => OV 27 (vget l 0) x41⟩, ⟨(some 11), (some 12), [], [11], fun l => OV 5 (vget l 0) x46⟩, ⟨(some 12), none, [], [12], fun l => OV 5 (vget l 0) x46⟩] (by kernel_rfl) (by kernel_rfl) (by kernel_rfl) (H := G) rfl ⟨?_, ?_, ?_, ?_, ?_, ?_, ?_, ?_, ?_, ?_, ?_, ?_, ?_, trivial⟩ ?_
  · intro Q ρ I1 H hI1 hk hpost
    have hc := Mem.le.refl I1
    refine fa fl29_0 rfl rfl ?_
    refine WL.nil ?_
    exact hpost _ _ hc rfl _ (fun _ hd => by obtain rfl := Option.some.inj hd; exact ⟨rfl, trivial⟩)
  · intro Q ρ I1 H hI1 hk hpost
    obtain ⟨_, -⟩ := hk
    have hc := Mem.le.refl I1
    refine ld 0 na3 rfl rfl rfl rfl ?_
    refine WL.nil ?_
    exact hpost _ _ hc rfl _ (fun _ hd => by obtain rfl := Option.some.inj hd; exact ⟨rfl, trivial⟩)
  · intro Q ρ I1 H hI1 hk hpost
    obtain ⟨_, -⟩ := hk
    have hc := Mem.le.refl I1
    refine cv8 Try.underlying3 Try.underlying5 rfl rfl ?_
    refine WL.nil ?_
    exact hpost _ _ hc rfl _ (fun _ hd => by obtain rfl := Option.some.inj hd; exact ⟨rfl, trivial⟩)
  · intro Q ρ I1 H hI1 hk hpost
    obtain ⟨_, -⟩ := hk
    have hc := Mem.le.refl I1
    refine bs (os := [.tmp 13]) (xs := ([(u8of p0.Kind)] : List UInt8)) et27 rfl rfl ⟨(Rv.of_u8 _ (u8of p0.Kind)), trivial⟩ rfl rfl rfl rfl (fun a10 c11 => ?_)
    refine WL.nil ?_
    exact hpost _ _ hc trivial _ (fun _ hd => by obtain rfl := Option.some.inj hd; exact ⟨rfl, trivial⟩)
  · intro Q ρ I1 H hI1 hk hpost
    have hc := Mem.le.refl I1
    refine fa fl29_1 rfl rfl ?_
    refine WL.nil ?_
    exact hpost _ _ hc rfl _ (fun _ hd => by obtain rfl := Option.some.inj hd; exact ⟨rfl, trivial⟩)
  · intro Q ρ I1 H hI1 hk hpost
    obtain ⟨_, -⟩ := hk
    have hc := Mem.le.refl I1
    refine ld 0 na3 rfl rfl rfl rfl ?_
    refine WL.nil ?_
    exact hpost _ _ hc rfl _ (fun _ hd => by obtain rfl := Option.some.inj hd; exact ⟨rfl, trivial⟩)
  · intro Q ρ I1 H hI1 hk hpost
    obtain ⟨_, -⟩ := hk
    have hc := Mem.le.refl I1
    refine call cl35 rfl rfl (W35 e14) (fun _ J15 _ hJ16 q17 => ?_)
    have hc := hc.trans hJ16
    obtain ⟨a18, c19, rfl, rfl⟩ := q17
    refine WL.nil ?_
    exact hpost _ _ hc trivial _ (fun _ hd => by obtain rfl := Option.some.inj hd; exact ⟨rfl, trivial⟩)
  · intro Q ρ I1 H hI1 hk hpost
    have hc := Mem.le.refl I1
    refine fa fl29_2 rfl rfl ?_
    refine WL.nil ?_
    exact hpost _ _ hc rfl _ (fun _ hd => by obtain rfl := Option.some.inj hd; exact ⟨rfl, trivial⟩)
  · intro Q ρ I1 H hI1 hk hpost
    obtain ⟨_, -⟩ := hk
    have hc := Mem.le.refl I1
    refine ld 0 na3 rfl rfl rfl rfl ?_
    refine WL.nil ?_
    exact hpost _ _ hc rfl _ (fun _ hd => by obtain rfl := Option.some.inj hd; exact ⟨rfl, trivial⟩)
  · intro Q ρ I1 H hI1 hk hpost
    obtain ⟨_, -⟩ := hk
    have hc := Mem.le.refl I1
    refine call cl35 rfl rfl (W35 e22) (fun _ J23 _ hJ24 q25 => ?_)
    have hc := hc.trans hJ24
    obtain ⟨a26, c27, rfl, rfl⟩ := q25
    refine WL.nil ?_
    exact hpost _ _ hc trivial _ (fun _ hd => by obtain rfl := Option.some.inj hd; exact ⟨rfl, trivial⟩)
  · intro Q ρ I1 H hI1 hk hpost
    obtain ⟨_, _, _, -⟩ := hk
    have hc := Mem.le.refl I1
    refine WL.freeze (fun J32 hJ33 h34 => ?_)
    have hc := hc.trans hJ33
    refine WL.freeze (fun J35 hJ36 h37 => ?_)
    have hc := hc.trans hJ36
    replace h34 := h34.up hJ36
    refine WL.freeze (fun J38 hJ39 h40 => ?_)
    have hc := hc.trans hJ39
    replace h34 := h34.up hJ39; replace h37 := h37.up hJ39
    refine bs (os := [.tmp 14, .tmp 17, .tmp 20]) (xs := ([([(u8of p0.Kind)] : List UInt8), x13, x21] : List (List UInt8))) et74 rfl rfl ⟨(h34).rv, (h37).rv, (h40).rv, trivial⟩ rfl rfl rfl rfl (fun a29 c30 => ?_)
    refine WL.ren (Option.some.inj e42) ?_
    refine WL.nil ?_
    exact hpost _ _ hc trivial _ (fun _ hd => by obtain rfl := Option.some.inj hd; exact ⟨rfl, trivial⟩)
  · intro Q ρ I1 H hI1 hk hpost
    obtain ⟨_, -⟩ := hk
    have hc := Mem.le.refl I1
    refine WL.freeze (fun J43 hJ44 h45 => ?_)
    have hc := hc.trans hJ44
    refine call cl34 rfl rfl (W34 e47 h45) (fun _ J48 _ hJ49 q50 => ?_)
    have hc := hc.trans hJ49
    replace h45 := h45.up hJ49
    obtain ⟨a51, c52, rfl, rfl⟩ := q50
    refine WL.nil ?_
    exact hpost _ _ hc trivial _ (fun _ hd => by obtain rfl := Option.some.inj hd; exact ⟨rfl, trivial⟩)
  · intro Q ρ I1 H hI1 hk hpost
    obtain ⟨_, -⟩ := hk
    have hc := Mem.le.refl I1
    refine asg rfl rfl ?_
    refine WL.nil ?_
    exact hpost _ _ hc trivial _ (fun _ hd => by obtain rfl := Option.some.inj hd; exact ⟨rfl, trivial⟩)
  rintro ρ J54 hJ55 -
  refine WX.sub (r := [(1, (.pointer (some ⟨g1, 0, none⟩))), (5, (ρ 12))]) ?_ ⟨rfl, rfl, trivial⟩
  refine WX.is (H := bl g1 #[(.int .i64 p0.Kind), (.int .i64 p0.Path), (.int .i64 p0.Number), (.int .i64 p0.Of), (.int .i64 p0.From), (.slice a0_5 p0.Data.length c0_5), (.bool p0.Fin), (.int .i64 p0.Seen), (.int .i64 p0.Limit)] 29 :: OV 5 (ρ 12) x46 :: G) rfl ?_
  have hI := hI.trans hJ55
  replace hp0_5 := hp0_5.up hJ55
  refine WX.front 1 ?_
  generalize ρ 12 = uv56 at *; refine WX.hd (fun a57 c58 e => ?_); subst e
  refine WX.then_ ?_
  refine WC.seq ?_
  refine WC.seq ?_
  refine WC.region ?_
  refine fa fl29_0 rfl rfl ?_
  refine ld 1 na3 rfl rfl rfl rfl ?_
  refine WL.next ?_
  refine WC.block ?_
  refine WC.seq ?_
  refine WC.region ?_
  refine eq rfl rfl rfl ?_
  refine asg rfl rfl ?_
  refine WL.next ?_
  refine WC.ite rfl h (fun k59 h => ?_) (fun k59 h => ?_)
  · skip
    refine WC.region ?_
    refine mv rfl rfl ?_
    refine fa fl29_3 rfl rfl ?_
    refine ld 1 na3 rfl rfl rfl rfl ?_
    obtain ⟨x60, e61, h⟩ := bnd h
    refine call cl35 rfl rfl (W35 e61) (fun _ J62 _ hJ63 q64 => ?_)
    have hI := hI.trans hJ63
    replace hp0_5 := hp0_5.up hJ63
    obtain ⟨a65, c66, rfl, rfl⟩ := q64
    refine WL.front 1 ?_
    obtain ⟨k68, h⟩ := chk h
    refine ap et27 rfl rfl ((OV.rd 1 rfl)) k68 rfl (fun a69 c70 => ?_)
    refine asg rfl rfl ?_
    refine WL.del 1 ?_
    refine WL.del 1 ?_
    refine WL.nil ?_
    refine WX.block_normal ?_
    refine WX.then_ ?_
    refine WC.seq ?_
    refine WC.region ?_
    refine mv rfl rfl ?_
    refine asg rfl rfl ?_
    refine asg rfl rfl ?_
    refine WL.next ?_
    refine WC.ret ?_
    cases h
    exact ret2 Try.results26 rfl rfl hI ⟨_, _, rfl, rfl⟩
  refine WC.seq ?_
  refine WC.region ?_
  refine eq rfl rfl rfl ?_
  refine asg rfl rfl ?_
  refine WL.next ?_
  refine WC.ite rfl h (fun k71 h => ?_) (fun k71 h => ?_)
  · skip
    refine WC.sub (r := [(1, (.pointer (some ⟨g1, 0, none⟩))), (5, (.slice a57 x46.length c58))]) ?_ ⟨rfl, rfl, trivial⟩
    obtain ⟨x72, e73, h⟩ := bnd h
    obtain ⟨x80, e81, h⟩ := bnd h
    obtain ⟨x103, e104, h⟩ := bnd h
    obtain ⟨x111, e112, h⟩ := bnd h
    obtain ⟨k119, h⟩ := chk h
    refine WC.front 1 ?_
    refine WC.drawn mo (nthL [[], [], [1], [1, 2], [], [4], [1, 2, 3, 4, 5], [0, 1, 2, 3, 4, 5, 6], [0, 1, 2, 3, 4, 5, 6, 7], [], [9], [0, 1, 2, 3, 4, 5, 6, 7, 8, 9, 10], [0, 1, 2, 3, 4, 5, 6, 7, 8, 9, 10, 11], [0, 1, 2, 3, 4, 5, 6, 7, 8, 9, 10, 11, 12], [0, 1, 2, 3, 4, 5, 6, 7, 8, 9, 10, 11, 12, 13]]) (nthL [[], [], [1], [2], [], [4], [5], [0, 3, 6], [7], [], [9], [10], [11], [8, 12], [13]]) (nthK [.val (.slice a57 x46.length c58), .val (.pointer (some ⟨g1, 4, none⟩)), .val (.int .i64 p0.From), .any, .val (.pointer (some ⟨g1, 5, none⟩)), .val (.slice a0_5 p0.Data.length c0_5), .any, .any, .any, .val (.pointer (some ⟨g1, 6, none⟩)), .val (.bool p0.Fin), .val (.int .u8 (x111.toNat : Int)), .any, .any, .any]) [⟨none, none, [2, 5, 10], [], fun _ => bl g1 #[(.int .i64 p0.Kind), (.int .i64 p0.Path), (.int .i64 p0.Number), (.int .i64 p0.Of), (.int .i64 p0.From), (.slice a0_5 p0.Data.length c0_5), (.bool p0.Fin), (.int .i64 p0.Seen), (.int .i64 p0.Limit)] 29⟩, ⟨(some 3), (some 7), [], [3], fun l => OV 5 (vget l 0) x72⟩, ⟨(some 6), (some 7), [], [6], fun l => OV 5 (vget l 0) x80⟩, ⟨none, (some 7), [], [], fun _ => OV 5 (.slice a57 x46.length c58) x46⟩, ⟨(some 7), (some 8), [], [7], fun l => OV 27 (vget l 0) ([x46, x72, x80] : List (List UInt8))⟩, ⟨(some 8), (some 13), [], [8], fun l => OV 5 (vget l 0) x103⟩, ⟨(some 12), none, [13], [12], fun l => OV 5 (vget l 0) ([x111] : List UInt8)⟩, ⟨(some 13), (some 14), [], [13], fun l => OV 5 (vget l 0) (x103 ++ ([x111] : List UInt8))⟩, ⟨(some 14), none, [], [14], fun l => OV 5 (vget l 0) (x103 ++ ([x111] : List UInt8))⟩] (by kernel_rfl) (by kernel_rfl) (by kernel_rfl) (H := G) rfl ⟨?_, ?_, ?_, ?_, ?_, ?_, ?_, ?_, ?_, ?_, ?_, ?_, ?_, ?_, ?_, trivial⟩ ?_
    · intro Q ρ I1 H hI1 hk hpost
      have hc := Mem.le.refl I1
      refine mv rfl rfl ?_
      refine WL.nil ?_
      exact hpost _ _ hc rfl _ (fun _ hd => by obtain rfl := Option.some.inj hd; exact ⟨rfl, trivial⟩)
    · intro Q ρ I1 H hI1 hk hpost
      have hc := Mem.le.refl I1
      refine fa fl29_4 rfl rfl ?_
      refine WL.nil ?_
      exact hpost _ _ hc rfl _ (fun _ hd => by obtain rfl := Option.some.inj hd; exact ⟨rfl, trivial⟩)
    · intro Q ρ I1 H hI1 hk hpost
      obtain ⟨_, -⟩ := hk
      have hc := Mem.le.refl I1
      refine ld 0 na3 rfl rfl rfl rfl ?_
      refine WL.nil ?_
      exact hpost _ _ hc rfl _ (fun _ hd => by obtain rfl := Option.some.inj hd; exact ⟨rfl, trivial⟩)
    · intro Q ρ I1 H hI1 hk hpost
      obtain ⟨_, -⟩ := hk
      have hc := Mem.le.refl I1
      refine call cl35 rfl rfl (W35 e73) (fun _ J74 _ hJ75 q76 => ?_)
      have hc := hc.trans hJ75
      obtain ⟨a77, c78, rfl, rfl⟩ := q76
      refine WL.nil ?_
      exact hpost _ _ hc trivial _ (fun _ hd => by obtain rfl := Option.some.inj hd; exact ⟨rfl, trivial⟩)
    · intro Q ρ I1 H hI1 hk hpost
      have hc := Mem.le.refl I1
      refine fa fl29_5 rfl rfl ?_
      refine WL.nil ?_
      exact hpost _ _ hc rfl _ (fun _ hd => by obtain rfl := Option.some.inj hd; exact ⟨rfl, trivial⟩)
    · intro Q ρ I1 H hI1 hk hpost
      obtain ⟨_, -⟩ := hk
      have hc := Mem.le.refl I1
      refine ld 0 na27 rfl rfl rfl rfl ?_
      refine WL.nil ?_
      exact hpost _ _ hc rfl _ (fun _ hd => by obtain rfl := Option.some.inj hd; exact ⟨rfl, trivial⟩)
    · intro Q ρ I1 H hI1 hk hpost
      obtain ⟨_, -⟩ := hk
      replace hp0_5 := hp0_5.up hI1
      have hc := Mem.le.refl I1
      refine call cl36 rfl rfl (W36 e81 hp0_5) (fun _ J82 _ hJ83 q84 => ?_)
      have hc := hc.trans hJ83
      replace hp0_5 := hp0_5.up hJ83
      obtain ⟨a85, c86, rfl, rfl⟩ := q84
      refine WL.nil ?_
      exact hpost _ _ hc trivial _ (fun _ hd => by obtain rfl := Option.some.inj hd; exact ⟨rfl, trivial⟩)
    · intro Q ρ I1 H hI1 hk hpost
      obtain ⟨_, _, _, -⟩ := hk
      have hc := Mem.le.refl I1
      refine WL.front 2 ?_
      refine WL.freeze (fun J91 hJ92 h93 => ?_)
      have hc := hc.trans hJ92
      refine WL.freeze (fun J94 hJ95 h96 => ?_)
      have hc := hc.trans hJ95
      replace h93 := h93.up hJ95
      refine WL.freeze (fun J97 hJ98 h99 => ?_)
      have hc := hc.trans hJ98
      replace h93 := h93.up hJ98; replace h96 := h96.up hJ98
      refine bs (os := [.tmp 34, .tmp 37, .tmp 40]) (xs := ([x46, x72, x80] : List (List UInt8))) et74 rfl rfl ⟨(h93).rv, (h96).rv, (h99).rv, trivial⟩ rfl rfl rfl rfl (fun a88 c89 => ?_)
      refine WL.nil ?_
      exact hpost _ _ hc trivial _ (fun _ hd => by obtain rfl := Option.some.inj hd; exact ⟨rfl, trivial⟩)
    · intro Q ρ I1 H hI1 hk hpost
      obtain ⟨_, -⟩ := hk
      have hc := Mem.le.refl I1
      refine WL.freeze (fun J100 hJ101 h102 => ?_)
      have hc := hc.trans hJ101
      refine call cl34 rfl rfl (W34 e104 h102) (fun _ J105 _ hJ106 q107 => ?_)
      have hc := hc.trans hJ106
      replace h102 := h102.up hJ106
      obtain ⟨a108, c109, rfl, rfl⟩ := q107
      refine WL.nil ?_
      exact hpost _ _ hc trivial _ (fun _ hd => by obtain rfl := Option.some.inj hd; exact ⟨rfl, trivial⟩)
    · intro Q ρ I1 H hI1 hk hpost
      have hc := Mem.le.refl I1
      refine fa fl29_6 rfl rfl ?_
      refine WL.nil ?_
      exact hpost _ _ hc rfl _ (fun _ hd => by obtain rfl := Option.some.inj hd; exact ⟨rfl, trivial⟩)
    · intro Q ρ I1 H hI1 hk hpost
      obtain ⟨_, -⟩ := hk
      have hc := Mem.le.refl I1
      refine ld 0 na4 rfl rfl rfl rfl ?_
      refine WL.nil ?_
      exact hpost _ _ hc rfl _ (fun _ hd => by obtain rfl := Option.some.inj hd; exact ⟨rfl, trivial⟩)
    · intro Q ρ I1 H hI1 hk hpost
      obtain ⟨_, -⟩ := hk
      have hc := Mem.le.refl I1
      refine call cl37 rfl rfl (W37 e112) (fun _ J113 _ hJ114 q115 => ?_)
      have hc := hc.trans hJ114
      obtain ⟨rfl, rfl⟩ := q115
      refine WL.nil ?_
      exact hpost _ _ hc rfl _ (fun _ hd => by obtain rfl := Option.some.inj hd; exact ⟨rfl, trivial⟩)
    · intro Q ρ I1 H hI1 hk hpost
      obtain ⟨_, -⟩ := hk
      have hc := Mem.le.refl I1
      refine bs (os := [.tmp 45]) (xs := ([x111] : List UInt8)) et27 rfl rfl ⟨(Rv.of_u8 _ x111), trivial⟩ rfl rfl rfl rfl (fun a116 c117 => ?_)
      refine WL.nil ?_
      exact hpost _ _ hc trivial _ (fun _ hd => by obtain rfl := Option.some.inj hd; exact ⟨rfl, trivial⟩)
    · intro Q ρ I1 H hI1 hk hpost
      obtain ⟨_, _, -⟩ := hk
      have hc := Mem.le.refl I1
      refine ap et27 rfl rfl ((OV.rd 1 rfl)) k119 rfl (fun a120 c121 => ?_)
      refine WL.front 1 ?_
      refine WL.front 1 ?_
      refine WL.nil ?_
      exact hpost _ _ hc trivial _ (fun _ hd => by obtain rfl := Option.some.inj hd; exact ⟨rfl, trivial⟩)
    · intro Q ρ I1 H hI1 hk hpost
      obtain ⟨_, -⟩ := hk
      have hc := Mem.le.refl I1
      refine asg rfl rfl ?_
      refine WL.nil ?_
      exact hpost _ _ hc trivial _ (fun _ hd => by obtain rfl := Option.some.inj hd; exact ⟨rfl, trivial⟩)
    rintro ρ J122 hJ123 -
    refine WX.sub (r := [(5, (ρ 14))]) ?_ ⟨rfl, trivial⟩
    refine WX.is (H := bl g1 #[(.int .i64 p0.Kind), (.int .i64 p0.Path), (.int .i64 p0.Number), (.int .i64 p0.Of), (.int .i64 p0.From), (.slice a0_5 p0.Data.length c0_5), (.bool p0.Fin), (.int .i64 p0.Seen), (.int .i64 p0.Limit)] 29 :: OV 5 (ρ 12) ([x111] : List UInt8) :: OV 5 (ρ 14) (x103 ++ ([x111] : List UInt8)) :: G) rfl ?_
    have hI := hI.trans hJ123
    replace hp0_5 := hp0_5.up hJ123
    refine WX.front 2 ?_
    generalize ρ 14 = uv124 at *; refine WX.hd (fun a125 c126 e => ?_); subst e
    refine WX.block_normal ?_
    refine WX.then_ ?_
    refine WC.seq ?_
    refine WC.region ?_
    refine mv rfl rfl ?_
    refine asg rfl rfl ?_
    refine asg rfl rfl ?_
    refine WL.del 1 ?_
    refine WL.del 1 ?_
    refine WL.next ?_
    refine WC.ret ?_
    cases h
    exact ret2 Try.results26 rfl rfl hI ⟨_, _, rfl, rfl⟩
  refine WC.seq ?_
  refine WC.region ?_
  refine eq rfl rfl rfl ?_
  refine asg rfl rfl ?_
  refine WL.next ?_
  refine WC.ite rfl h (fun k127 h => ?_) (fun k127 h => ?_)
  · skip
    refine WC.sub (r := [(1, (.pointer (some ⟨g1, 0, none⟩))), (5, (.slice a57 x46.length c58))]) ?_ ⟨rfl, rfl, trivial⟩
    obtain ⟨x128, e129, h⟩ := bnd h
    obtain ⟨x136, e137, h⟩ := bnd h
    obtain ⟨x144, e145, h⟩ := bnd h
    obtain ⟨x170, e171, h⟩ := bnd h
    refine WC.front 1 ?_
    refine WC.drawn mo (nthL [[], [], [1], [1, 2], [], [4], [1, 2, 3, 4, 5], [], [7], [1, 2, 3, 4, 5, 6, 7, 8], [0, 1, 2, 3, 4, 5, 6, 7, 8, 9], [0, 1, 2, 3, 4, 5, 6, 7, 8, 9, 10], [0, 1, 2, 3, 4, 5, 6, 7, 8, 9, 10, 11]]) (nthL [[], [], [1], [2], [], [4], [5], [], [7], [8], [0, 3, 6, 9], [10], [11]]) (nthK [.val (.slice a57 x46.length c58), .val (.pointer (some ⟨g1, 3, none⟩)), .val (.int .i64 p0.Of), .any, .val (.pointer (some ⟨g1, 7, none⟩)), .val (.int .i64 p0.Seen), .any, .val (.pointer (some ⟨g1, 8, none⟩)), .val (.int .i64 p0.Limit), .any, .any, .any, .any]) [⟨none, none, [2, 5, 8], [], fun _ => bl g1 #[(.int .i64 p0.Kind), (.int .i64 p0.Path), (.int .i64 p0.Number), (.int .i64 p0.Of), (.int .i64 p0.From), (.slice a0_5 p0.Data.length c0_5), (.bool p0.Fin), (.int .i64 p0.Seen), (.int .i64 p0.Limit)] 29⟩, ⟨(some 3), (some 10), [], [3], fun l => OV 5 (vget l 0) x128⟩, ⟨(some 6), (some 10), [], [6], fun l => OV 5 (vget l 0) x136⟩, ⟨(some 9), (some 10), [], [9], fun l => OV 5 (vget l 0) x144⟩, ⟨none, (some 10), [], [], fun _ => OV 5 (.slice a57 x46.length c58) x46⟩, ⟨(some 10), (some 11), [], [10], fun l => OV 27 (vget l 0) ([x46, x128, x136, x144] : List (List UInt8))⟩, ⟨(some 11), (some 12), [], [11], fun l => OV 5 (vget l 0) x170⟩, ⟨(some 12), none, [], [12], fun l => OV 5 (vget l 0) x170⟩] (by kernel_rfl) (by kernel_rfl) (by kernel_rfl) (H := G) rfl ⟨?_, ?_, ?_, ?_, ?_, ?_, ?_, ?_, ?_, ?_, ?_, ?_, ?_, trivial⟩ ?_
    · intro Q ρ I1 H hI1 hk hpost
      have hc := Mem.le.refl I1
      refine mv rfl rfl ?_
      refine WL.nil ?_
      exact hpost _ _ hc rfl _ (fun _ hd => by obtain rfl := Option.some.inj hd; exact ⟨rfl, trivial⟩)
    · intro Q ρ I1 H hI1 hk hpost
      have hc := Mem.le.refl I1
      refine fa fl29_3 rfl rfl ?_
      refine WL.nil ?_
      exact hpost _ _ hc rfl _ (fun _ hd => by obtain rfl := Option.some.inj hd; exact ⟨rfl, trivial⟩)
    · intro Q ρ I1 H hI1 hk hpost
      obtain ⟨_, -⟩ := hk
      have hc := Mem.le.refl I1
      refine ld 0 na3 rfl rfl rfl rfl ?_
      refine WL.nil ?_
      exact hpost _ _ hc rfl _ (fun _ hd => by obtain rfl := Option.some.inj hd; exact ⟨rfl, trivial⟩)
    · intro Q ρ I1 H hI1 hk hpost
      obtain ⟨_, -⟩ := hk
      have hc := Mem.le.refl I1
      refine call cl35 rfl rfl (W35 e129) (fun _ J130 _ hJ131 q132 => ?_)
      have hc := hc.trans hJ131
      obtain ⟨a133, c134, rfl, rfl⟩ := q132
      refine WL.nil ?_
      exact hpost _ _ hc trivial _ (fun _ hd => by obtain rfl := Option.some.inj hd; exact ⟨rfl, trivial⟩)
    · intro Q ρ I1 H hI1 hk hpost
      have hc := Mem.le.refl I1
      refine fa fl29_7 rfl rfl ?_
      refine WL.nil ?_
      exact hpost _ _ hc rfl _ (fun _ hd => by obtain rfl := Option.some.inj hd; exact ⟨rfl, trivial⟩)
    · intro Q ρ I1 H hI1 hk hpost
      obtain ⟨_, -⟩ := hk
      have hc := Mem.le.refl I1
      refine ld 0 na3 rfl rfl rfl rfl ?_
      refine WL.nil ?_
      exact hpost _ _ hc rfl _ (fun _ hd => by obtain rfl := Option.some.inj hd; exact ⟨rfl, trivial⟩)
    · intro Q ρ I1 H hI1 hk hpost
      obtain ⟨_, -⟩ := hk
      have hc := Mem.le.refl I1
      refine call cl35 rfl rfl (W35 e137) (fun _ J138 _ hJ139 q140 => ?_)
      have hc := hc.trans hJ139
      obtain ⟨a141, c142, rfl, rfl⟩ := q140
      refine WL.nil ?_
      exact hpost _ _ hc trivial _ (fun _ hd => by obtain rfl := Option.some.inj hd; exact ⟨rfl, trivial⟩)
    · intro Q ρ I1 H hI1 hk hpost
      have hc := Mem.le.refl I1
      refine fa fl29_8 rfl rfl ?_
      refine WL.nil ?_
      exact hpost _ _ hc rfl _ (fun _ hd => by obtain rfl := Option.some.inj hd; exact ⟨rfl, trivial⟩)
    · intro Q ρ I1 H hI1 hk hpost
      obtain ⟨_, -⟩ := hk
      have hc := Mem.le.refl I1
      refine ld 0 na3 rfl rfl rfl rfl ?_
      refine WL.nil ?_
      exact hpost _ _ hc rfl _ (fun _ hd => by obtain rfl := Option.some.inj hd; exact ⟨rfl, trivial⟩)
    · intro Q ρ I1 H hI1 hk hpost
      obtain ⟨_, -⟩ := hk
      have hc := Mem.le.refl I1
      refine call cl35 rfl rfl (W35 e145) (fun _ J146 _ hJ147 q148 => ?_)
      have hc := hc.trans hJ147
      obtain ⟨a149, c150, rfl, rfl⟩ := q148
      refine WL.nil ?_
      exact hpost _ _ hc trivial _ (fun _ hd => by obtain rfl := Option.some.inj hd; exact ⟨rfl, trivial⟩)
    · intro Q ρ I1 H hI1 hk hpost
      obtain ⟨_, _, _, _, -⟩ := hk
      have hc := Mem.le.refl I1
      refine WL.front 3 ?_
      refine WL.freeze (fun J155 hJ156 h157 => ?_)
      have hc := hc.trans hJ156
      refine WL.freeze (fun J158 hJ159 h160 => ?_)
      have hc := hc.trans hJ159
      replace h157 := h157.up hJ159
      refine WL.freeze (fun J161 hJ162 h163 => ?_)
      have hc := hc.trans hJ162
      replace h157 := h157.up hJ162; replace h160 := h160.up hJ162
      refine WL.freeze (fun J164 hJ165 h166 => ?_)
      have hc := hc.trans hJ165
      replace h157 := h157.up hJ165; replace h160 := h160.up hJ165; replace h163 := h163.up hJ165
      refine bs (os := [.tmp 50, .tmp 53, .tmp 56, .tmp 59]) (xs := ([x46, x128, x136, x144] : List (List UInt8))) et74 rfl rfl ⟨(h157).rv, (h160).rv, (h163).rv, (h166).rv, trivial⟩ rfl rfl rfl rfl (fun a152 c153 => ?_)
      refine WL.nil ?_
      exact hpost _ _ hc trivial _ (fun _ hd => by obtain rfl := Option.some.inj hd; exact ⟨rfl, trivial⟩)
    · intro Q ρ I1 H hI1 hk hpost
      obtain ⟨_, -⟩ := hk
      have hc := Mem.le.refl I1
      refine WL.freeze (fun J167 hJ168 h169 => ?_)
      have hc := hc.trans hJ168
      refine call cl34 rfl rfl (W34 e171 h169) (fun _ J172 _ hJ173 q174 => ?_)
      have hc := hc.trans hJ173
      replace h169 := h169.up hJ173
      obtain ⟨a175, c176, rfl, rfl⟩ := q174
      refine WL.nil ?_
      exact hpost _ _ hc trivial _ (fun _ hd => by obtain rfl := Option.some.inj hd; exact ⟨rfl, trivial⟩)
    · intro Q ρ I1 H hI1 hk hpost
      obtain ⟨_, -⟩ := hk
      have hc := Mem.le.refl I1
      refine asg rfl rfl ?_
      refine WL.nil ?_
      exact hpost _ _ hc trivial _ (fun _ hd => by obtain rfl := Option.some.inj hd; exact ⟨rfl, trivial⟩)
    rintro ρ J178 hJ179 -
    refine WX.sub (r := [(5, (ρ 12))]) ?_ ⟨rfl, trivial⟩
    refine WX.is (H := bl g1 #[(.int .i64 p0.Kind), (.int .i64 p0.Path), (.int .i64 p0.Number), (.int .i64 p0.Of), (.int .i64 p0.From), (.slice a0_5 p0.Data.length c0_5), (.bool p0.Fin), (.int .i64 p0.Seen), (.int .i64 p0.Limit)] 29 :: OV 5 (ρ 12) x170 :: G) rfl ?_
    have hI := hI.trans hJ179
    replace hp0_5 := hp0_5.up hJ179
    refine WX.front 1 ?_
    generalize ρ 12 = uv180 at *; refine WX.hd (fun a181 c182 e => ?_); subst e
    refine WX.block_normal ?_
    refine WX.then_ ?_
    refine WC.seq ?_
    refine WC.region ?_
    refine mv rfl rfl ?_
    refine asg rfl rfl ?_
    refine asg rfl rfl ?_
    refine WL.del 1 ?_
    refine WL.next ?_
    refine WC.ret ?_
    cases h
    exact ret2 Try.results26 rfl rfl hI ⟨_, _, rfl, rfl⟩
  refine WC.skip ?_
  refine WX.block_normal ?_
  refine WX.then_ ?_
  refine WC.seq ?_
  refine WC.region ?_
  refine mv rfl rfl ?_
  refine asg rfl rfl ?_
  refine asg rfl rfl ?_
  refine WL.del 1 ?_
  refine WL.next ?_
  refine WC.ret ?_
  cases h
  exact ret2 Try.results26 rfl rfl hI ⟨_, _, rfl, rfl⟩
theorem W16 {I : Mem} {G : List Asn} {p0 : api_Packet} {r : (List UInt8) × Int} (h : packet_Pack p0 = some r) {u0_5 : Value} (hp0_5 : IV I u0_5 p0.Data) :
    CallsS Try.prog 16 #[.agg #[(.int .i64 p0.Kind), (.int .i64 p0.Path), (.int .i64 p0.Number), (.int .i64 p0.Of), (.int .i64 p0.From), u0_5, (.bool p0.Fin), (.int .i64 p0.Seen), (.int .i64 p0.Limit)]] I (G) (fun v J G' => ∃ ra0 rc0, v = .tuple #[.slice ra0 r.1.length rc0, .int .i64 r.2] ∧ OV 5 (.slice ra0 r.1.length rc0) r.1 :: G = G') := by
  refine CallsS.enter Try.func16 rfl Try.ntmps16 rfl (fun w0 => ?_)
  have hI := Mem.le.refl I
  obtain ⟨a0_5, c0_5, rfl⟩ := hp0_5.hd
  unfold packet_Pack at h
  refine WC.seq ?_
  refine WC.region ?_
  refine bx rfl rfl rfl (fun g1 => ?_)
  refine asg rfl rfl ?_
  refine asg rfl rfl ?_
  refine WL.next ?_
  refine WC.seq ?_
  refine WC.region ?_
  refine lda 0 ya29 rfl rfl rfl rfl rfl ?_
  obtain ⟨⟨x3, x4⟩, e5, h⟩ := bnd h
  refine call cl26 rfl rfl (W26 e5 hp0_5) (fun _ J6 _ hJ7 q8 => ?_)
  have hI := hI.trans hJ7
  replace hp0_5 := hp0_5.up hJ7
  obtain ⟨a9, c10, rfl, rfl⟩ := q8
  refine mv rfl rfl ?_
  refine ex rfl rfl rfl ?_
  refine ex rfl rfl rfl ?_
  refine asg rfl rfl ?_
  refine asg rfl rfl ?_
  refine WL.del 1 ?_
  refine WL.next ?_
  refine WC.seq ?_
  refine WC.seq ?_
  refine WC.region ?_
  refine mv rfl rfl ?_
  refine ne rfl rfl rfl ?_
  refine WL.next ?_
  refine WC.ite rfl h (fun k12 h => ?_) (fun k12 h => ?_)
  · skip
    refine WC.seq ?_
    refine WC.region ?_
    refine mv rfl rfl ?_
    refine asg rfl rfl ?_
    refine asg rfl rfl ?_
    refine WL.del 0 ?_
    refine WL.next ?_
    refine WC.ret ?_
    refine WX.then_ret ?_
    refine WX.own_nil UInt8 5 ?_
    cases h
    exact ret2 Try.results16 rfl rfl hI ⟨_, _, rfl, rfl⟩
  refine WC.skip ?_
  refine WX.then_ ?_
  refine WC.seq ?_
  refine WC.region ?_
  refine mv rfl rfl ?_
  refine WL.freeze (fun J14 hJ15 h16 => ?_)
  have hI := hI.trans hJ15
  obtain ⟨x17, e18, h⟩ := bnd h
  refine call cl27 rfl rfl (W27 e18 h16) (fun _ J19 _ hJ20 q21 => ?_)
  have hI := hI.trans hJ20
  replace h16 := h16.up hJ20
  obtain ⟨a22, c23, rfl, rfl⟩ := q21
  refine asg rfl rfl ?_
  refine asg rfl rfl ?_
  refine WL.next ?_
  refine WC.ret ?_
  cases h
  exact ret2 Try.results16 rfl rfl hI ⟨_, _, rfl, rfl⟩
theorem W11 {I : Mem} {G : List Asn} {p0 : net_Net} {p1 : Int} {r : Int × net_Net} (h : net_Net_Len p0 p1 = some r) {g0 : Nat} :
    CallsS Try.prog 11 #[.pointer (some ⟨g0, 0, none⟩), .int .i64 p1] I (Ob_net_Net g0 p0 :: G) (fun v J G' => v = .int .i64 r.1 ∧ Ob_net_Net g0 (r.2) :: G = G') := by
  refine CallsS.enter Try.func11 rfl Try.ntmps11 rfl (fun w0 => ?_)
  have hI := Mem.le.refl I
  unfold net_Net_Len at h
  refine WC.seq ?_
  refine WC.region ?_
  refine asg rfl rfl ?_
  refine WL.next ?_
  refine WC.seq ?_
  refine WC.seq ?_
  refine WC.region ?_
  refine mv rfl rfl ?_
  obtain ⟨x2, e3, h⟩ := bnd h
  refine call cl15 rfl rfl (W15 e3) (fun _ J4 _ hJ5 q6 => ?_)
  have hI := hI.trans hJ5
  obtain ⟨rfl, rfl⟩ := q6
  refine nt rfl rfl ?_
  refine WL.next ?_
  refine WC.itebn rfl h (fun k7 h => ?_) (fun k7 h => ?_)
  · skip
    refine WC.skip ?_
    refine WX.then_ ?_
    refine WC.seq ?_
    refine WC.region ?_
    refine mv rfl rfl ?_
    refine mv rfl rfl ?_
    refine nc rfl rfl ?_
    refine fa fl43_0 rfl rfl ?_
    rcases spl h with ⟨k8, h⟩ | ⟨k8, h⟩
    · skip
      refine WL.rb 1 rfl (congrArg (Value.int .i64) k8) ?_
      refine WL.rb 9 rfl (congrArg (Value.int .i64) k8) ?_
      refine ixa (i := 0) at41 rfl rfl rfl rfl rfl rfl ?_
      refine WL.open_net_Net (fun a9 c10 a12 c13  => ?_)
      refine ld 0 na40 rfl rfl rfl rfl ?_
      refine ln et40 rfl (OV.rd 1 rfl) rfl ?_
      refine asg rfl rfl ?_
      refine WL.next ?_
      refine WC.ret ?_
      refine WX.front 2 ?_
      refine WX.front 2 ?_
      refine WX.front 2 ?_
      refine WX.shut_net_Net (⟨p0.l_0, p0.l_1⟩ : net_Net)  ?_
      cases h
      exact ret1 Try.results11 rfl hI ⟨rfl, rfl⟩
    rcases spl h with ⟨k15, h⟩ | ⟨k15, h⟩
    · skip
      refine WL.rb 1 rfl (congrArg (Value.int .i64) k15) ?_
      refine WL.rb 9 rfl (congrArg (Value.int .i64) k15) ?_
      refine ixa (i := 1) at41 rfl rfl rfl rfl rfl rfl ?_
      refine WL.open_net_Net (fun a16 c17 a19 c20  => ?_)
      refine ld 0 na40 rfl rfl rfl rfl ?_
      refine ln et40 rfl (OV.rd 2 rfl) rfl ?_
      refine asg rfl rfl ?_
      refine WL.next ?_
      refine WC.ret ?_
      refine WX.front 2 ?_
      refine WX.front 2 ?_
      refine WX.front 2 ?_
      refine WX.shut_net_Net (⟨p0.l_0, p0.l_1⟩ : net_Net)  ?_
      cases h
      exact ret1 Try.results11 rfl hI ⟨rfl, rfl⟩
    cases h
  refine WC.seq ?_
  refine WC.region ?_
  refine asg rfl rfl ?_
  refine WL.next ?_
  refine WC.ret ?_
  refine WX.then_ret ?_
  cases h
  exact ret1 Try.results11 rfl hI ⟨rfl, rfl⟩
theorem W7 {I : Mem} {G : List Asn} {p0 : net_Net} {p1 : Int} {p2 : api_Packet} {r : Int × net_Net} (h : net_Net_Put p0 p1 p2 = some r) {g0 : Nat} {u2_5 : Value} (hp2_5 : IV I u2_5 p2.Data) :
    CallsS Try.prog 7 #[.pointer (some ⟨g0, 0, none⟩), .int .i64 p1, .agg #[(.int .i64 p2.Kind), (.int .i64 p2.Path), (.int .i64 p2.Number), (.int .i64 p2.Of), (.int .i64 p2.From), u2_5, (.bool p2.Fin), (.int .i64 p2.Seen), (.int .i64 p2.Limit)]] I (Ob_net_Net g0 p0 :: G) (fun v J G' => v = .int .i64 r.1 ∧ Ob_net_Net g0 (r.2) :: G = G') := by
  refine CallsS.enter Try.func7 rfl Try.ntmps7 rfl (fun w0 => ?_)
  have hI := Mem.le.refl I
  obtain ⟨a2_5, c2_5, rfl⟩ := hp2_5.hd
  unfold net_Net_Put at h
  refine WC.seq ?_
  refine WC.region ?_
  refine bx rfl rfl rfl (fun g2 => ?_)
  refine asg rfl rfl ?_
  refine WL.next ?_
  refine WC.seq ?_
  refine WC.seq ?_
  refine WC.region ?_
  refine mv rfl rfl ?_
  obtain ⟨x4, e5, h⟩ := bnd h
  refine call cl15 rfl rfl (W15 e5) (fun _ J6 _ hJ7 q8 => ?_)
  have hI := hI.trans hJ7
  replace hp2_5 := hp2_5.up hJ7
  obtain ⟨rfl, rfl⟩ := q8
  refine nt rfl rfl ?_
  refine WL.next ?_
  refine WC.itebn rfl h (fun k9 h => ?_) (fun k9 h => ?_)
  · skip
    refine WC.skip ?_
    refine WX.then_ ?_
    refine WC.seq ?_
    refine WC.region ?_
    refine lda 0 ya29 rfl rfl rfl rfl rfl ?_
    obtain ⟨⟨x10, x11⟩, e12, h⟩ := bnd h
    refine call cl16 rfl rfl (W16 e12 hp2_5) (fun _ J13 _ hJ14 q15 => ?_)
    have hI := hI.trans hJ14
    replace hp2_5 := hp2_5.up hJ14
    obtain ⟨a16, c17, rfl, rfl⟩ := q15
    refine mv rfl rfl ?_
    refine ex rfl rfl rfl ?_
    refine ex rfl rfl rfl ?_
    refine asg rfl rfl ?_
    refine asg rfl rfl ?_
    refine WL.del 1 ?_
    refine WL.next ?_
    refine WC.seq ?_
    refine WC.block ?_
    refine WC.seq ?_
    refine WC.region ?_
    refine mv rfl rfl ?_
    refine ne rfl rfl rfl ?_
    refine asg rfl rfl ?_
    refine WL.next ?_
    refine WC.ite rfl h (fun k19 h => ?_) (fun k19 h => ?_)
    · skip
      refine WC.seq ?_
      refine WC.region ?_
      refine mv rfl rfl ?_
      refine asg rfl rfl ?_
      refine WL.del 0 ?_
      refine WL.next ?_
      refine WC.ret ?_
      refine WX.block_ret ?_
      refine WX.then_ret ?_
      cases h
      exact ret1 Try.results7 rfl hI ⟨rfl, rfl⟩
    refine WC.seq ?_
    refine WC.region ?_
    refine mv rfl rfl ?_
    refine mv rfl rfl ?_
    refine WL.front 1 ?_
    obtain ⟨⟨x20, s21⟩, e22, h⟩ := bnd h
    refine call cl11 rfl rfl (W11 e22) (fun _ J23 _ hJ24 q25 => ?_)
    have hI := hI.trans hJ24
    obtain ⟨rfl, rfl⟩ := q25
    refine ge rfl rfl rfl ?_
    refine asg rfl rfl ?_
    refine WL.next ?_
    refine WC.ite rfl h (fun k26 h => ?_) (fun k26 h => ?_)
    · skip
      refine WC.seq ?_
      refine WC.region ?_
      refine asg rfl rfl ?_
      refine WL.del 1 ?_
      refine WL.next ?_
      refine WC.ret ?_
      refine WX.block_ret ?_
      refine WX.then_ret ?_
      cases h
      exact ret1 Try.results7 rfl hI ⟨rfl, rfl⟩
    refine WC.skip ?_
    refine WX.block_normal ?_
    refine WX.then_ ?_
    refine WC.seq ?_
    rcases spl h with ⟨k27, h⟩ | ⟨k27, h⟩
    · skip
      refine WC.rb 1 rfl (congrArg (Value.int .i64) k27) ?_
      refine WC.open_net_Net (fun a28 c29 a31 c32  => ?_)
      refine WC.sub (r := [(0, (.pointer (some ⟨g0, 0, none⟩))), (1, (.int .i64 0)), (7, (.slice a16 x10.length c17))]) ?_ ⟨rfl, rfl, rfl, trivial⟩
      obtain ⟨k45, h⟩ := chk h
      obtain ⟨x48, e49, h⟩ := bnd h
      refine WC.front 1 ?_
      refine WC.front 3 ?_
      refine WC.front 2 ?_
      refine WC.drawn mo (nthL [[], [], [], [], [2], [2, 4], [2, 3, 4, 5], [2, 3, 4, 5, 6], [], [8], [8, 9], [2, 3, 4, 5, 6, 7, 8, 9, 10], [0], [0, 12], [0, 1, 2, 3, 4, 5, 6, 7, 8, 9, 10, 11, 12, 13], [0, 1, 2, 3, 4, 5, 6, 7, 8, 9, 10, 11, 12, 13, 14]]) (nthL [[], [], [], [], [2], [4], [3, 5], [6], [], [8], [9], [7, 10], [0], [12], [1, 13], [11, 14]]) (nthK [.val (.pointer (some ⟨g0, 0, none⟩)), .val (.int .i64 0), .val (.pointer (some ⟨g0, 0, none⟩)), .val (.int .i64 0), .val (.pointer (some ⟨g0, 0, none⟩)), .val (.pointer (some ⟨g0, 0, none⟩)), .val (.pointer (some ⟨g0, 0, none⟩)), .val (.slice a28 s21.l_0.length c29), .val (.slice a16 x10.length c17), .val (.agg #[(.slice a16 x10.length c17), (.bool false)]), .any, .any, .val (.pointer (some ⟨g0, 0, none⟩)), .val (.pointer (some ⟨g0, 0, none⟩)), .val (.pointer (some ⟨g0, 0, none⟩)), .any]) [⟨none, (some 15), [6, 7, 14], [], fun _ => bl g0 #[(.slice a28 s21.l_0.length c29), (.slice a31 s21.l_1.length c32)] 43⟩, ⟨none, (some 10), [9], [], fun _ => OV 5 (.slice a16 x10.length c17) x10⟩, ⟨(some 10), none, [11], [10], fun l => OV 47 (vget l 0) ([(⟨x10, false⟩ : net_bag)] : List net_bag)⟩, ⟨none, (some 11), [], [], fun _ => OV 47 (.slice a28 s21.l_0.length c29) s21.l_0⟩, ⟨(some 11), none, [15], [11], fun l => OV 47 (vget l 0) x48⟩, ⟨(some 15), none, [], [11], fun l => bl g0 #[(vget l 0), (.slice a31 s21.l_1.length c32)] 43⟩] (by kernel_rfl) (by kernel_rfl) (by kernel_rfl) (H := OV 47 (.slice a31 s21.l_1.length c32) s21.l_1 :: G) rfl ⟨?_, ?_, ?_, ?_, ?_, ?_, ?_, ?_, ?_, ?_, ?_, ?_, ?_, ?_, ?_, ?_, trivial⟩ ?_
      · intro Q ρ I1 H hI1 hk hpost
        have hc := Mem.le.refl I1
        refine mv rfl rfl ?_
        refine WL.nil ?_
        exact hpost _ _ hc rfl _ (fun _ hd => by obtain rfl := Option.some.inj hd; exact ⟨rfl, trivial⟩)
      · intro Q ρ I1 H hI1 hk hpost
        have hc := Mem.le.refl I1
        refine mv rfl rfl ?_
        refine WL.nil ?_
        exact hpost _ _ hc rfl _ (fun _ hd => by obtain rfl := Option.some.inj hd; exact ⟨rfl, trivial⟩)
      · intro Q ρ I1 H hI1 hk hpost
        have hc := Mem.le.refl I1
        refine mv rfl rfl ?_
        refine WL.nil ?_
        exact hpost _ _ hc rfl _ (fun _ hd => by obtain rfl := Option.some.inj hd; exact ⟨rfl, trivial⟩)
      · intro Q ρ I1 H hI1 hk hpost
        have hc := Mem.le.refl I1
        refine mv rfl rfl ?_
        refine WL.nil ?_
        exact hpost _ _ hc rfl _ (fun _ hd => by obtain rfl := Option.some.inj hd; exact ⟨rfl, trivial⟩)
      · intro Q ρ I1 H hI1 hk hpost
        obtain ⟨_, -⟩ := hk
        have hc := Mem.le.refl I1
        refine nc rfl rfl ?_
        refine WL.nil ?_
        exact hpost _ _ hc rfl _ (fun _ hd => by obtain rfl := Option.some.inj hd; exact ⟨rfl, trivial⟩)
      · intro Q ρ I1 H hI1 hk hpost
        obtain ⟨_, -⟩ := hk
        have hc := Mem.le.refl I1
        refine fa fl43_0 rfl rfl ?_
        refine WL.nil ?_
        exact hpost _ _ hc rfl _ (fun _ hd => by obtain rfl := Option.some.inj hd; exact ⟨rfl, trivial⟩)
      · intro Q ρ I1 H hI1 hk hpost
        obtain ⟨_, _, -⟩ := hk
        have hc := Mem.le.refl I1
        refine ixa (i := 0) at41 rfl rfl rfl rfl rfl rfl ?_
        refine WL.nil ?_
        exact hpost _ _ hc rfl _ (fun _ hd => by obtain rfl := Option.some.inj hd; exact ⟨rfl, trivial⟩)
      · intro Q ρ I1 H hI1 hk hpost
        obtain ⟨_, -⟩ := hk
        have hc := Mem.le.refl I1
        refine ld 0 na40 rfl rfl rfl rfl ?_
        refine WL.nil ?_
        exact hpost _ _ hc rfl _ (fun _ hd => by obtain rfl := Option.some.inj hd; exact ⟨rfl, trivial⟩)
      · intro Q ρ I1 H hI1 hk hpost
        have hc := Mem.le.refl I1
        refine mv rfl rfl ?_
        refine WL.nil ?_
        exact hpost _ _ hc rfl _ (fun _ hd => by obtain rfl := Option.some.inj hd; exact ⟨rfl, trivial⟩)
      · intro Q ρ I1 H hI1 hk hpost
        obtain ⟨_, -⟩ := hk
        have hc := Mem.le.refl I1
        refine bu bt47 rfl rfl rfl ?_
        refine WL.nil ?_
        exact hpost _ _ hc rfl _ (fun _ hd => by obtain rfl := Option.some.inj hd; exact ⟨rfl, trivial⟩)
      · intro Q ρ I1 H hI1 hk hpost
        obtain ⟨_, -⟩ := hk
        have hc := Mem.le.refl I1
        refine WL.freeze (fun J37 hJ38 h39 => ?_)
        have hc := hc.trans hJ38
        refine bs (os := [.tmp 35]) (xs := ([(⟨x10, false⟩ : net_bag)] : List net_bag)) et40 rfl rfl ⟨(Rv.mk_net_bag (⟨x10, false⟩ : net_bag) h39), trivial⟩ rfl rfl rfl rfl (fun a34 c35 => ?_)
        refine WL.nil ?_
        exact hpost _ _ hc trivial _ (fun _ hd => by obtain rfl := Option.some.inj hd; exact ⟨rfl, trivial⟩)
      · intro Q ρ I1 H hI1 hk hpost
        obtain ⟨_, _, -⟩ := hk
        have hc := Mem.le.refl I1
        refine ap et40 rfl rfl ((OV.rd 1 rfl)) k45 rfl (fun a46 c47 => ?_)
        refine WL.ren (Option.some.inj e49) ?_
        refine WL.front 1 ?_
        refine WL.front 1 ?_
        refine WL.nil ?_
        exact hpost _ _ hc trivial _ (fun _ hd => by obtain rfl := Option.some.inj hd; exact ⟨rfl, trivial⟩)
      · intro Q ρ I1 H hI1 hk hpost
        obtain ⟨_, -⟩ := hk
        have hc := Mem.le.refl I1
        refine nc rfl rfl ?_
        refine WL.nil ?_
        exact hpost _ _ hc rfl _ (fun _ hd => by obtain rfl := Option.some.inj hd; exact ⟨rfl, trivial⟩)
      · intro Q ρ I1 H hI1 hk hpost
        obtain ⟨_, -⟩ := hk
        have hc := Mem.le.refl I1
        refine fa fl43_0 rfl rfl ?_
        refine WL.nil ?_
        exact hpost _ _ hc rfl _ (fun _ hd => by obtain rfl := Option.some.inj hd; exact ⟨rfl, trivial⟩)
      · intro Q ρ I1 H hI1 hk hpost
        obtain ⟨_, _, -⟩ := hk
        have hc := Mem.le.refl I1
        refine ixa (i := 0) at41 rfl rfl rfl rfl rfl rfl ?_
        refine WL.nil ?_
        exact hpost _ _ hc rfl _ (fun _ hd => by obtain rfl := Option.some.inj hd; exact ⟨rfl, trivial⟩)
      · intro Q ρ I1 H hI1 hk hpost
        obtain ⟨_, _, -⟩ := hk
        have hc := Mem.le.refl I1
        refine WL.front 1 ?_
        refine WL.hd (fun a50 c51 e52 => ?_)
        refine WL.front 1 ?_
        refine st (C' := #[(ρ 11), (.slice a31 s21.l_1.length c32)]) sz40 rfl rfl (sl_one e52) rfl rfl ?_
        refine WL.front 1 ?_
        refine WL.front 1 ?_
        refine WL.nil ?_
        exact hpost undef _ hc trivial _ (fun _ hd => by cases hd)
      rintro ρ J53 hJ54 -
      refine WX.sub (r := []) ?_ trivial
      refine WX.is (H := OV 47 (ρ 10) ([(⟨x10, false⟩ : net_bag)] : List net_bag) :: OV 47 (ρ 11) x48 :: bl g0 #[(ρ 11), (.slice a31 s21.l_1.length c32)] 43 :: OV 47 (.slice a31 s21.l_1.length c32) s21.l_1 :: G) rfl ?_
      have hI := hI.trans hJ54
      refine WX.front 1 ?_
      generalize ρ 11 = uv55 at *; refine WX.hd (fun a56 c57 e => ?_); subst e
      refine WX.then_ ?_
      refine WC.seq ?_
      refine WC.region ?_
      refine asg rfl rfl ?_
      refine WL.del 1 ?_
      refine WL.next ?_
      refine WC.ret ?_
      refine WX.front 2 ?_
      refine WX.front 1 ?_
      refine WX.front 2 ?_
      refine WX.shut_net_Net (⟨x48, s21.l_1⟩ : net_Net)  ?_
      cases h
      exact ret1 Try.results7 rfl hI ⟨rfl, rfl⟩
    rcases spl h with ⟨k58, h⟩ | ⟨k58, h⟩
    · skip
      refine WC.rb 1 rfl (congrArg (Value.int .i64) k58) ?_
      refine WC.open_net_Net (fun a59 c60 a62 c63  => ?_)
      refine WC.sub (r := [(0, (.pointer (some ⟨g0, 0, none⟩))), (1, (.int .i64 1)), (7, (.slice a16 x10.length c17))]) ?_ ⟨rfl, rfl, rfl, trivial⟩
      obtain ⟨k76, h⟩ := chk h
      obtain ⟨x79, e80, h⟩ := bnd h
      refine WC.front 2 ?_
      refine WC.front 3 ?_
      refine WC.front 2 ?_
      refine WC.drawn mo (nthL [[], [], [], [], [2], [2, 4], [2, 3, 4, 5], [2, 3, 4, 5, 6], [], [8], [8, 9], [2, 3, 4, 5, 6, 7, 8, 9, 10], [0], [0, 12], [0, 1, 2, 3, 4, 5, 6, 7, 8, 9, 10, 11, 12, 13], [0, 1, 2, 3, 4, 5, 6, 7, 8, 9, 10, 11, 12, 13, 14]]) (nthL [[], [], [], [], [2], [4], [3, 5], [6], [], [8], [9], [7, 10], [0], [12], [1, 13], [11, 14]]) (nthK [.val (.pointer (some ⟨g0, 0, none⟩)), .val (.int .i64 1), .val (.pointer (some ⟨g0, 0, none⟩)), .val (.int .i64 1), .val (.pointer (some ⟨g0, 0, none⟩)), .val (.pointer (some ⟨g0, 0, none⟩)), .val (.pointer (some ⟨g0, 1, none⟩)), .val (.slice a62 s21.l_1.length c63), .val (.slice a16 x10.length c17), .val (.agg #[(.slice a16 x10.length c17), (.bool false)]), .any, .any, .val (.pointer (some ⟨g0, 0, none⟩)), .val (.pointer (some ⟨g0, 0, none⟩)), .val (.pointer (some ⟨g0, 1, none⟩)), .any]) [⟨none, (some 15), [6, 7, 14], [], fun _ => bl g0 #[(.slice a59 s21.l_0.length c60), (.slice a62 s21.l_1.length c63)] 43⟩, ⟨none, (some 10), [9], [], fun _ => OV 5 (.slice a16 x10.length c17) x10⟩, ⟨(some 10), none, [11], [10], fun l => OV 47 (vget l 0) ([(⟨x10, false⟩ : net_bag)] : List net_bag)⟩, ⟨none, (some 11), [], [], fun _ => OV 47 (.slice a62 s21.l_1.length c63) s21.l_1⟩, ⟨(some 11), none, [15], [11], fun l => OV 47 (vget l 0) x79⟩, ⟨(some 15), none, [], [11], fun l => bl g0 #[(.slice a59 s21.l_0.length c60), (vget l 0)] 43⟩] (by kernel_rfl) (by kernel_rfl) (by kernel_rfl) (H := OV 47 (.slice a59 s21.l_0.length c60) s21.l_0 :: G) rfl ⟨?_, ?_, ?_, ?_, ?_, ?_, ?_, ?_, ?_, ?_, ?_, ?_, ?_, ?_, ?_, ?_, trivial⟩ ?_
      · intro Q ρ I1 H hI1 hk hpost
        have hc := Mem.le.refl I1
        refine mv rfl rfl ?_
        refine WL.nil ?_
        exact hpost _ _ hc rfl _ (fun _ hd => by obtain rfl := Option.some.inj hd; exact ⟨rfl, trivial⟩)
      · intro Q ρ I1 H hI1 hk hpost
        have hc := Mem.le.refl I1
        refine mv rfl rfl ?_
        refine WL.nil ?_
        exact hpost _ _ hc rfl _ (fun _ hd => by obtain rfl := Option.some.inj hd; exact ⟨rfl, trivial⟩)
      · intro Q ρ I1 H hI1 hk hpost
        have hc := Mem.le.refl I1
        refine mv rfl rfl ?_
        refine WL.nil ?_
        exact hpost _ _ hc rfl _ (fun _ hd => by obtain rfl := Option.some.inj hd; exact ⟨rfl, trivial⟩)
      · intro Q ρ I1 H hI1 hk hpost
        have hc := Mem.le.refl I1
        refine mv rfl rfl ?_
        refine WL.nil ?_
        exact hpost _ _ hc rfl _ (fun _ hd => by obtain rfl := Option.some.inj hd; exact ⟨rfl, trivial⟩)
      · intro Q ρ I1 H hI1 hk hpost
        obtain ⟨_, -⟩ := hk
        have hc := Mem.le.refl I1
        refine nc rfl rfl ?_
        refine WL.nil ?_
        exact hpost _ _ hc rfl _ (fun _ hd => by obtain rfl := Option.some.inj hd; exact ⟨rfl, trivial⟩)
      · intro Q ρ I1 H hI1 hk hpost
        obtain ⟨_, -⟩ := hk
        have hc := Mem.le.refl I1
        refine fa fl43_0 rfl rfl ?_
        refine WL.nil ?_
        exact hpost _ _ hc rfl _ (fun _ hd => by obtain rfl := Option.some.inj hd; exact ⟨rfl, trivial⟩)
      · intro Q ρ I1 H hI1 hk hpost
        obtain ⟨_, _, -⟩ := hk
        have hc := Mem.le.refl I1
        refine ixa (i := 1) at41 rfl rfl rfl rfl rfl rfl ?_
        refine WL.nil ?_
        exact hpost _ _ hc rfl _ (fun _ hd => by obtain rfl := Option.some.inj hd; exact ⟨rfl, trivial⟩)
      · intro Q ρ I1 H hI1 hk hpost
        obtain ⟨_, -⟩ := hk
        have hc := Mem.le.refl I1
        refine ld 0 na40 rfl rfl rfl rfl ?_
        refine WL.nil ?_
        exact hpost _ _ hc rfl _ (fun _ hd => by obtain rfl := Option.some.inj hd; exact ⟨rfl, trivial⟩)
      · intro Q ρ I1 H hI1 hk hpost
        have hc := Mem.le.refl I1
        refine mv rfl rfl ?_
        refine WL.nil ?_
        exact hpost _ _ hc rfl _ (fun _ hd => by obtain rfl := Option.some.inj hd; exact ⟨rfl, trivial⟩)
      · intro Q ρ I1 H hI1 hk hpost
        obtain ⟨_, -⟩ := hk
        have hc := Mem.le.refl I1
        refine bu bt47 rfl rfl rfl ?_
        refine WL.nil ?_
        exact hpost _ _ hc rfl _ (fun _ hd => by obtain rfl := Option.some.inj hd; exact ⟨rfl, trivial⟩)
      · intro Q ρ I1 H hI1 hk hpost
        obtain ⟨_, -⟩ := hk
        have hc := Mem.le.refl I1
        refine WL.freeze (fun J68 hJ69 h70 => ?_)
        have hc := hc.trans hJ69
        refine bs (os := [.tmp 35]) (xs := ([(⟨x10, false⟩ : net_bag)] : List net_bag)) et40 rfl rfl ⟨(Rv.mk_net_bag (⟨x10, false⟩ : net_bag) h70), trivial⟩ rfl rfl rfl rfl (fun a65 c66 => ?_)
        refine WL.nil ?_
        exact hpost _ _ hc trivial _ (fun _ hd => by obtain rfl := Option.some.inj hd; exact ⟨rfl, trivial⟩)
      · intro Q ρ I1 H hI1 hk hpost
        obtain ⟨_, _, -⟩ := hk
        have hc := Mem.le.refl I1
        refine ap et40 rfl rfl ((OV.rd 1 rfl)) k76 rfl (fun a77 c78 => ?_)
        refine WL.ren (Option.some.inj e80) ?_
        refine WL.front 1 ?_
        refine WL.front 1 ?_
        refine WL.nil ?_
        exact hpost _ _ hc trivial _ (fun _ hd => by obtain rfl := Option.some.inj hd; exact ⟨rfl, trivial⟩)
      · intro Q ρ I1 H hI1 hk hpost
        obtain ⟨_, -⟩ := hk
        have hc := Mem.le.refl I1
        refine nc rfl rfl ?_
        refine WL.nil ?_
        exact hpost _ _ hc rfl _ (fun _ hd => by obtain rfl := Option.some.inj hd; exact ⟨rfl, trivial⟩)
      · intro Q ρ I1 H hI1 hk hpost
        obtain ⟨_, -⟩ := hk
        have hc := Mem.le.refl I1
        refine fa fl43_0 rfl rfl ?_
        refine WL.nil ?_
        exact hpost _ _ hc rfl _ (fun _ hd => by obtain rfl := Option.some.inj hd; exact ⟨rfl, trivial⟩)
      · intro Q ρ I1 H hI1 hk hpost
        obtain ⟨_, _, -⟩ := hk
        have hc := Mem.le.refl I1
        refine ixa (i := 1) at41 rfl rfl rfl rfl rfl rfl ?_
        refine WL.nil ?_
        exact hpost _ _ hc rfl _ (fun _ hd => by obtain rfl := Option.some.inj hd; exact ⟨rfl, trivial⟩)
      · intro Q ρ I1 H hI1 hk hpost
        obtain ⟨_, _, -⟩ := hk
        have hc := Mem.le.refl I1
        refine WL.front 1 ?_
        refine WL.hd (fun a81 c82 e83 => ?_)
        refine WL.front 1 ?_
        refine st (C' := #[(.slice a59 s21.l_0.length c60), (ρ 11)]) sz40 rfl rfl (sl_one e83) rfl rfl ?_
        refine WL.front 1 ?_
        refine WL.front 1 ?_
        refine WL.nil ?_
        exact hpost undef _ hc trivial _ (fun _ hd => by cases hd)
      rintro ρ J84 hJ85 -
      refine WX.sub (r := []) ?_ trivial
      refine WX.is (H := OV 47 (ρ 10) ([(⟨x10, false⟩ : net_bag)] : List net_bag) :: OV 47 (ρ 11) x79 :: bl g0 #[(.slice a59 s21.l_0.length c60), (ρ 11)] 43 :: OV 47 (.slice a59 s21.l_0.length c60) s21.l_0 :: G) rfl ?_
      have hI := hI.trans hJ85
      refine WX.front 1 ?_
      generalize ρ 11 = uv86 at *; refine WX.hd (fun a87 c88 e => ?_); subst e
      refine WX.then_ ?_
      refine WC.seq ?_
      refine WC.region ?_
      refine asg rfl rfl ?_
      refine WL.del 1 ?_
      refine WL.next ?_
      refine WC.ret ?_
      refine WX.front 2 ?_
      refine WX.front 2 ?_
      refine WX.shut_net_Net (⟨s21.l_0, x79⟩ : net_Net)  ?_
      cases h
      exact ret1 Try.results7 rfl hI ⟨rfl, rfl⟩
    cases h
  refine WC.seq ?_
  refine WC.region ?_
  refine asg rfl rfl ?_
  refine WL.del 0 ?_
  refine WL.next ?_
  refine WC.ret ?_
  refine WX.then_ret ?_
  cases h
  exact ret1 Try.results7 rfl hI ⟨rfl, rfl⟩
theorem W17 {I : Mem} {G : List Asn} {p0 : net_Net} {p1 : Int} {p2 : Int} {r : Bool × net_Net} (h : net_Net_there p0 p1 p2 = some r) {g0 : Nat} :
    CallsS Try.prog 17 #[.pointer (some ⟨g0, 0, none⟩), .int .i64 p1, .int .i64 p2] I (Ob_net_Net g0 p0 :: G) (fun v J G' => v = .bool r.1 ∧ Ob_net_Net g0 (r.2) :: G = G') := by
  refine CallsS.enter Try.func17 rfl Try.ntmps17 rfl (fun w0 => ?_)
  have hI := Mem.le.refl I
  unfold net_Net_there at h
  refine WC.seq ?_
  refine WC.region ?_
  refine asg rfl rfl ?_
  refine WL.next ?_
  refine WC.seq ?_
  refine WC.region ?_
  refine mv rfl rfl ?_
  refine ge rfl rfl rfl ?_
  refine mv rfl rfl ?_
  rcases spl h with ⟨k2, h⟩ | ⟨k2, h⟩
  · skip
    refine WL.rb 9 rfl (bT k2) ?_
    refine WL.on rfl rfl ?_
    refine mv rfl rfl ?_
    refine WL.on rfl rfl ?_
    refine mv rfl rfl ?_
    refine WL.on rfl rfl ?_
    refine mv rfl rfl ?_
    refine WL.on rfl rfl ?_
    obtain ⟨⟨x3, s4⟩, e5, h⟩ := bnd h
    refine call cl11 rfl rfl (W11 e5) (fun _ J6 _ hJ7 q8 => ?_)
    have hI := hI.trans hJ7
    obtain ⟨rfl, rfl⟩ := q8
    refine WL.on rfl rfl ?_
    refine lt rfl rfl rfl ?_
    refine pkT rfl rfl rfl ?_
    refine asg rfl rfl ?_
    refine WL.next ?_
    refine WC.ret ?_
    cases h
    exact ret1 Try.results17 rfl hI ⟨rfl, rfl⟩
  refine WL.rb 9 rfl (bF k2) ?_
  refine WL.no rfl rfl rfl rfl ?_
  refine WL.no rfl rfl rfl rfl ?_
  refine WL.no rfl rfl rfl rfl ?_
  refine WL.no rfl rfl rfl rfl ?_
  refine WL.no rfl rfl rfl rfl ?_
  refine pkF rfl rfl rfl ?_
  refine asg rfl rfl ?_
  refine WL.next ?_
  refine WC.ret ?_
  cases h
  exact ret1 Try.results17 rfl hI ⟨rfl, rfl⟩
theorem W8 {I : Mem} {G : List Asn} {p0 : net_Net} {p1 : Int} {p2 : Int} {r : (List UInt8) × Bool × net_Net} (h : net_Net_Get p0 p1 p2 = some r) {g0 : Nat} :
    CallsS Try.prog 8 #[.pointer (some ⟨g0, 0, none⟩), .int .i64 p1, .int .i64 p2] I (Ob_net_Net g0 p0 :: G) (fun v J G' => ∃ ra0 rc0, v = .tuple #[.slice ra0 r.1.length rc0, .bool r.2.1] ∧ OV 5 (.slice ra0 r.1.length rc0) r.1 :: Ob_net_Net g0 (r.2.2) :: G = G') := by
  refine CallsS.enter Try.func8 rfl Try.ntmps8 rfl (fun w0 => ?_)
  have hI := Mem.le.refl I
  unfold net_Net_Get at h
  refine WC.seq ?_
  refine WC.region ?_
  refine asg rfl rfl ?_
  refine asg rfl rfl ?_
  refine WL.next ?_
  refine WC.seq ?_
  refine WC.seq ?_
  refine WC.region ?_
  refine mv rfl rfl ?_
  refine mv rfl rfl ?_
  refine mv rfl rfl ?_
  obtain ⟨⟨x2, s3⟩, e4, h⟩ := bnd h
  refine call cl17 rfl rfl (W17 e4) (fun _ J5 _ hJ6 q7 => ?_)
  have hI := hI.trans hJ6
  obtain ⟨rfl, rfl⟩ := q7
  refine nt rfl rfl ?_
  refine WL.next ?_
  refine WC.itebn rfl h (fun k8 h => ?_) (fun k8 h => ?_)
  · skip
    refine WC.skip ?_
    refine WX.then_ ?_
    refine WC.seq ?_
    refine WC.region ?_
    refine mv rfl rfl ?_
    refine mv rfl rfl ?_
    refine nc rfl rfl ?_
    refine fa fl43_0 rfl rfl ?_
    rcases spl h with ⟨k9, h⟩ | ⟨k9, h⟩
    · skip
      refine WL.rb 1 rfl (congrArg (Value.int .i64) k9) ?_
      refine WL.rb 14 rfl (congrArg (Value.int .i64) k9) ?_
      refine ixa (i := 0) at41 rfl rfl rfl rfl rfl rfl ?_
      refine WL.open_net_Net (fun a10 c11 a13 c14  => ?_)
      refine ld 0 na40 rfl rfl rfl rfl ?_
      refine mv rfl rfl ?_
      obtain ⟨k16, h⟩ := chk h
      refine ixo 1 et40 rfl rfl rfl k16 rfl (fun uv17 h18 => ?_)
      refine faa fl47_0 rfl h18 rfl (fun uv19 h20 => ?_)
      obtain ⟨z23, e24, h⟩ := bnd h
      refine ldof (α := net_bag) (β := List UInt8) 1 na27 rfl h20 rfl e24 fp47_0 rfl (fun uv21 h22 => ?_)
      replace h22 := h22.sl; obtain ⟨a25, c26, rfl⟩ := h22.hd
      obtain ⟨x27, e28, h⟩ := bnd h
      refine call cl18 rfl rfl (W18 e28 h22) (fun _ J29 _ hJ30 q31 => ?_)
      have hI := hI.trans hJ30
      replace h22 := h22.up hJ30
      obtain ⟨a32, c33, rfl, rfl⟩ := q31
      refine asg rfl rfl ?_
      refine asg rfl rfl ?_
      refine WL.next ?_
      refine WC.ret ?_
      refine WX.front 3 ?_
      refine WX.front 3 ?_
      refine WX.front 3 ?_
      refine WX.shut_net_Net (⟨s3.l_0, s3.l_1⟩ : net_Net)  ?_
      refine WX.front 1 ?_
      cases h
      exact ret2 Try.results8 rfl rfl hI ⟨_, _, rfl, rfl⟩
    rcases spl h with ⟨k35, h⟩ | ⟨k35, h⟩
    · skip
      refine WL.rb 1 rfl (congrArg (Value.int .i64) k35) ?_
      refine WL.rb 14 rfl (congrArg (Value.int .i64) k35) ?_
      refine ixa (i := 1) at41 rfl rfl rfl rfl rfl rfl ?_
      refine WL.open_net_Net (fun a36 c37 a39 c40  => ?_)
      refine ld 0 na40 rfl rfl rfl rfl ?_
      refine mv rfl rfl ?_
      obtain ⟨k42, h⟩ := chk h
      refine ixo 2 et40 rfl rfl rfl k42 rfl (fun uv43 h44 => ?_)
      refine faa fl47_0 rfl h44 rfl (fun uv45 h46 => ?_)
      obtain ⟨z49, e50, h⟩ := bnd h
      refine ldof (α := net_bag) (β := List UInt8) 2 na27 rfl h46 rfl e50 fp47_0 rfl (fun uv47 h48 => ?_)
      replace h48 := h48.sl; obtain ⟨a51, c52, rfl⟩ := h48.hd
      obtain ⟨x53, e54, h⟩ := bnd h
      refine call cl18 rfl rfl (W18 e54 h48) (fun _ J55 _ hJ56 q57 => ?_)
      have hI := hI.trans hJ56
      replace h48 := h48.up hJ56
      obtain ⟨a58, c59, rfl, rfl⟩ := q57
      refine asg rfl rfl ?_
      refine asg rfl rfl ?_
      refine WL.next ?_
      refine WC.ret ?_
      refine WX.front 3 ?_
      refine WX.front 3 ?_
      refine WX.front 3 ?_
      refine WX.shut_net_Net (⟨s3.l_0, s3.l_1⟩ : net_Net)  ?_
      refine WX.front 1 ?_
      cases h
      exact ret2 Try.results8 rfl rfl hI ⟨_, _, rfl, rfl⟩
    cases h
  refine WC.seq ?_
  refine WC.region ?_
  refine asg rfl rfl ?_
  refine asg rfl rfl ?_
  refine WL.next ?_
  refine WC.ret ?_
  refine WX.then_ret ?_
  refine WX.own_nil UInt8 5 ?_
  refine WX.front 1 ?_
  refine WX.front 1 ?_
  cases h
  exact ret2 Try.results8 rfl rfl hI ⟨_, _, rfl, rfl⟩
end Go.Proofs.Ytcfapdamgbbklaa
