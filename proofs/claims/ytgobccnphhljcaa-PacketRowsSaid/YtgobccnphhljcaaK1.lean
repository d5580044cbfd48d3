/- Printed by a program of this session: walks of Go functions. -/
import Derived.Test.YtgobccnphhljcaaKf
import Derived.Test.YtgobccnphhljcaaDf
import Derived.Test.YtgobccnphhljcaaK0
namespace Go.Proofs.Ytgobccnphhljcaa
set_option linter.unusedVariables false
set_option maxRecDepth 10000
set_option maxHeartbeats 2000000
theorem W81 {I : Mem} {G : List Asn} {p0 : Int} {r : UInt8} (h : vint_mark p0 = some r) :
    CallsS Try.prog 81 #[.int .i64 p0] I (G) (fun v J G' => v = .int .u8 (r.toNat : Int) ∧ G = G') := by
  refine CallsS.enter Try.func81 rfl Try.ntmps81 rfl (fun w0 => ?_)
  have hI := Mem.le.refl I
  unfold vint_mark at h
  refine WC.seq ?_
  refine WC.region ?_
  refine asg rfl rfl ?_
  refine WL.next ?_
  refine WC.seq ?_
  refine WC.seq ?_
  refine WC.region ?_
  refine mv rfl rfl ?_
  refine WL.next ?_
  refine WC.block ?_
  refine WC.seq ?_
  refine WC.region ?_
  refine eq rfl rfl rfl ?_
  refine asg rfl rfl ?_
  refine WL.next ?_
  refine WC.ite rfl h (fun k1 h => ?_) (fun k1 h => ?_)
  · skip
    refine WC.seq ?_
    refine WC.region ?_
    refine asg rfl rfl ?_
    refine WL.next ?_
    refine WC.ret ?_
    refine WX.block_ret ?_
    refine WX.then_ret ?_
    cases h
    exact ret1 Try.results81 rfl hI ⟨rfl, rfl⟩
  refine WC.seq ?_
  refine WC.region ?_
  refine eq rfl rfl rfl ?_
  refine asg rfl rfl ?_
  refine WL.next ?_
  refine WC.ite rfl h (fun k2 h => ?_) (fun k2 h => ?_)
  · skip
    refine WC.seq ?_
    refine WC.region ?_
    refine asg rfl rfl ?_
    refine WL.next ?_
    refine WC.ret ?_
    refine WX.block_ret ?_
    refine WX.then_ret ?_
    cases h
    exact ret1 Try.results81 rfl hI ⟨rfl, rfl⟩
  refine WC.seq ?_
  refine WC.region ?_
  refine eq rfl rfl rfl ?_
  refine asg rfl rfl ?_
  refine WL.next ?_
  refine WC.ite rfl h (fun k3 h => ?_) (fun k3 h => ?_)
  · skip
    refine WC.seq ?_
    refine WC.region ?_
    refine asg rfl rfl ?_
    refine WL.next ?_
    refine WC.ret ?_
    refine WX.block_ret ?_
    refine WX.then_ret ?_
    cases h
    exact ret1 Try.results81 rfl hI ⟨rfl, rfl⟩
  refine WC.skip ?_
  refine WX.block_normal ?_
  refine WX.then_ ?_
  refine WC.seq ?_
  refine WC.region ?_
  refine asg rfl rfl ?_
  refine WL.next ?_
  refine WC.ret ?_
  cases h
  exact ret1 Try.results81 rfl hI ⟨rfl, rfl⟩
theorem W59 {I : Mem} {G : List Asn} {p0 : Int} {r : (List UInt8)} (h : vint_Put p0 = some r) :
    CallsS Try.prog 59 #[.int .i64 p0] I (G) (fun v J G' => ∃ ra0 rc0, v = .slice ra0 r.length rc0 ∧ OV 5 (.slice ra0 r.length rc0) r :: G = G') := by
  refine CallsS.enter Try.func59 rfl Try.ntmps59 rfl (fun w0 => ?_)
  have hI := Mem.le.refl I
  unfold vint_Put at h
  refine WC.seq ?_
  refine WC.region ?_
  refine asg rfl rfl ?_
  refine WL.next ?_
  refine WC.seq ?_
  refine WC.region ?_
  refine mv rfl rfl ?_
  obtain ⟨x1, e2, h⟩ := bnd h
  refine call cl80 rfl rfl (W80 e2) (fun _ J3 _ hJ4 q5 => ?_)
  have hI := hI.trans hJ4
  obtain ⟨rfl, rfl⟩ := q5
  refine asg rfl rfl ?_
  refine WL.next ?_
  refine WC.seq ?_
  refine WC.region ?_
  refine asg rfl rfl ?_
  refine WL.next ?_
  refine WC.seq ?_
  refine WC.seq ?_
  refine WC.region ?_
  refine mv rfl rfl ?_
  refine su rfl rfl rfl ?_
  refine asg rfl rfl ?_
  refine WL.next ?_
  refine WC.block ?_
  refine WC.own_nil UInt8 5 ?_
  refine WC.loop (σ := (List UInt8) × Int × (Option Addr) × Nat) (fun k (x7, x10, a8, c9) => vint_Put_l0 p0 x1 k x7 x10) _ (fun (x7, x10, a8, c9) => [(0, (.int .i64 p0)), (3, (.int .i64 x1)), (4, (.slice a8 x7.length c9)), (5, (.int .i64 x10))]) (fun (x7, x10, a8, c9) => OV 5 (.slice a8 x7.length c9) x7 :: G) (fun (x7, x10, a8, c9) J => True) (fun ⟨x7, x10, a8, c9⟩ => rfl) bigN ⟨([] : List UInt8), w64 (x1 - 1), _, _⟩ h trivial ⟨rfl, rfl, rfl, rfl, trivial⟩ rfl ?_
  rintro k0 ih0 ⟨x7, x10, a8, c9⟩ J22 hJ23 - h
  change vint_Put_l0 p0 x1 (k0 + 1) x7 x10 = _ at h
  rw [vint_Put_l0] at h
  have hI := hI.trans hJ23
  have ll0 := hJ23
  refine WC.seq ?_
  refine WC.seq ?_
  refine WC.region ?_
  refine mv rfl rfl ?_
  refine ge rfl rfl rfl ?_
  refine WL.next ?_
  refine WC.ite rfl h (fun k24 h => ?_) (fun k24 h => ?_)
  · skip
    refine WC.skip ?_
    refine WX.then_ ?_
    refine WC.seq ?_
    refine WC.block ?_
    refine WC.region ?_
    refine mv rfl rfl ?_
    refine mv rfl rfl ?_
    refine mv rfl rfl ?_
    refine mu rfl rfl rfl ?_
    obtain ⟨k25, h⟩ := chk h
    refine sr k25 rfl rfl rfl ?_
    refine cv8 Try.underlying3 Try.underlying5 rfl rfl ?_
    refine bs (os := [.tmp 19]) (xs := ([(u8of (sr64 p0 (w64 (8 * x10))))] : List UInt8)) et22 rfl rfl ⟨(Rv.of_u8 _ (u8of (sr64 p0 (w64 (8 * x10))))), trivial⟩ rfl rfl rfl rfl (fun a26 c27 => ?_)
    refine WL.front 1 ?_
    obtain ⟨k29, h⟩ := chk h
    obtain ⟨x32, e33, h⟩ := bnd h
    refine ap et22 rfl rfl ((OV.rd 1 rfl)) k29 rfl (fun a30 c31 => ?_)
    refine WL.ren (Option.some.inj e33) ?_
    refine asg rfl rfl ?_
    refine WL.del 1 ?_
    refine WL.nil ?_
    refine WX.block_normal ?_
    refine WX.then_ ?_
    refine WC.region ?_
    refine mv rfl rfl ?_
    refine su rfl rfl rfl ?_
    refine asg rfl rfl ?_
    refine WL.nil ?_
    refine WX.round ?_
    exact (ih0 ⟨x32, w64 (x10 - 1), _, _⟩ _ ll0 trivial h).sub ⟨rfl, rfl, rfl, rfl, trivial⟩
  refine WC.exit ?_
  refine WX.then_exit ?_
  refine WX.then_exit ?_
  refine WX.block_here ?_
  refine WX.then_ ?_
  refine WC.seq ?_
  refine WC.seq ?_
  refine WC.region ?_
  refine mv rfl rfl ?_
  refine gt rfl rfl rfl ?_
  refine WL.next ?_
  refine WC.ite rfl h (fun k34 h => ?_) (fun k34 h => ?_)
  · skip
    refine WC.sub (r := [(3, (.int .i64 x1)), (4, (.slice a8 x7.length c9))]) ?_ ⟨rfl, rfl, trivial⟩
    obtain ⟨k35, h⟩ := chk h
    obtain ⟨z40, e41, h⟩ := bnd h
    obtain ⟨x42, e43, h⟩ := bnd h
    obtain ⟨k47, h⟩ := chk h
    obtain ⟨x50, e51, h⟩ := bnd h
    refine WC.drawn mo (nthL [[], [0], [0, 1], [], [3], [0, 1, 2, 3, 4], [0, 1, 2, 3, 4, 5], [0, 1, 2, 3, 4, 5, 6]]) (nthL [[], [0], [1], [], [3], [2, 4], [0], [5, 6]]) (nthK [.val (.slice a8 x7.length c9), .of (fun v _ => At UInt8 (.slice a8 x7.length c9) (0 : Int).toNat v) (fun _ h => h), .val (.int .u8 (z40.toNat : Int)), .val (.int .i64 x1), .val (.int .u8 (x42.toNat : Int)), .val (.int .u8 ((z40 ||| x42).toNat : Int)), .of (fun v _ => At UInt8 (.slice a8 x7.length c9) (0 : Int).toNat v) (fun _ h => h), .any]) [⟨none, (some 7), [1, 2, 6], [], fun _ => OV 5 (.slice a8 x7.length c9) x7⟩, ⟨(some 7), none, [], [], fun _ => OV 5 (.slice a8 x50.length c9) x50⟩] (by kernel_rfl) (by kernel_rfl) (by kernel_rfl) (H := G) rfl ⟨?_, ?_, ?_, ?_, ?_, ?_, ?_, ?_, trivial⟩ ?_
    · intro Q ρ I1 H hI1 hk hpost
      have hc := Mem.le.refl I1
      refine mv rfl rfl ?_
      refine WL.nil ?_
      exact hpost _ _ hc rfl _ (fun _ hd => by obtain rfl := Option.some.inj hd; exact ⟨rfl, trivial⟩)
    · intro Q ρ I1 H hI1 hk hpost
      obtain ⟨_, -⟩ := hk
      have hc := Mem.le.refl I1
      refine ixo 0 et22 rfl rfl rfl k35 rfl (fun uv36 h37 => ?_)
      refine WL.nil ?_
      exact hpost _ _ hc h37 _ (fun _ hd => by obtain rfl := Option.some.inj hd; exact ⟨rfl, trivial⟩)
    · intro Q ρ I1 H hI1 hk hpost
      obtain ⟨k1, -⟩ := hk
      have hc := Mem.le.refl I1
      refine ldo (α := UInt8) 0 na5 rfl k1 rfl e41 rfl (fun uv38 h39 => ?_)
      obtain rfl := h39.u8
      refine WL.nil ?_
      exact hpost _ _ hc rfl _ (fun _ hd => by obtain rfl := Option.some.inj hd; exact ⟨rfl, trivial⟩)
    · intro Q ρ I1 H hI1 hk hpost
      have hc := Mem.le.refl I1
      refine mv rfl rfl ?_
      refine WL.nil ?_
      exact hpost _ _ hc rfl _ (fun _ hd => by obtain rfl := Option.some.inj hd; exact ⟨rfl, trivial⟩)
    · intro Q ρ I1 H hI1 hk hpost
      obtain ⟨_, -⟩ := hk
      have hc := Mem.le.refl I1
      refine call cl81 rfl rfl (W81 e43) (fun _ J44 _ hJ45 q46 => ?_)
      have hc := hc.trans hJ45
      obtain ⟨rfl, rfl⟩ := q46
      refine WL.nil ?_
      exact hpost _ _ hc rfl _ (fun _ hd => by obtain rfl := Option.some.inj hd; exact ⟨rfl, trivial⟩)
    · intro Q ρ I1 H hI1 hk hpost
      obtain ⟨_, _, -⟩ := hk
      have hc := Mem.le.refl I1
      refine or8 (a := z40) (b := x42) rfl rfl rfl rfl rfl ?_
      refine WL.nil ?_
      exact hpost _ _ hc rfl _ (fun _ hd => by obtain rfl := Option.some.inj hd; exact ⟨rfl, trivial⟩)
    · intro Q ρ I1 H hI1 hk hpost
      obtain ⟨_, -⟩ := hk
      have hc := Mem.le.refl I1
      refine ixo 0 et22 rfl rfl rfl k47 rfl (fun uv48 h49 => ?_)
      refine WL.nil ?_
      exact hpost _ _ hc h49 _ (fun _ hd => by obtain rfl := Option.some.inj hd; exact ⟨rfl, trivial⟩)
    · intro Q ρ I1 H hI1 hk hpost
      obtain ⟨_, k6, -⟩ := hk
      have hc := Mem.le.refl I1
      refine sto2 (α := UInt8) (z := (z40 ||| x42)) sz5 rfl rfl k6 (ilt k47) (Rv.of_u8 _ (z40 ||| x42)) (Option.some.inj e51) ?_
      refine WL.nil ?_
      exact hpost undef _ hc trivial _ (fun _ hd => by cases hd)
    rintro ρ J52 hJ53 -
    refine WX.sub (r := [(4, (.slice a8 x7.length c9))]) ?_ ⟨rfl, trivial⟩
    refine WX.is (H := OV 5 (.slice a8 x50.length c9) x50 :: G) rfl ?_
    have hI := hI.trans hJ53
    have ll0 := ll0.trans hJ53
    refine WX.rb 4 rfl (u := (.slice a8 x50.length c9)) (by rw [← Option.some.inj e51, List.length_set]) ?_
    refine WX.then_ ?_
    refine WC.seq ?_
    refine WC.region ?_
    refine mv rfl rfl ?_
    refine asg rfl rfl ?_
    refine WL.next ?_
    refine WC.ret ?_
    cases h
    exact ret1 Try.results59 rfl hI ⟨_, _, rfl, rfl⟩
  refine WC.skip ?_
  refine WX.then_ ?_
  refine WC.seq ?_
  refine WC.region ?_
  refine mv rfl rfl ?_
  refine asg rfl rfl ?_
  refine WL.next ?_
  refine WC.ret ?_
  cases h
  exact ret1 Try.results59 rfl hI ⟨_, _, rfl, rfl⟩
theorem W54 {I : Mem} {G : List Asn} {p0 : List (List UInt8)} {r : (List UInt8)} (h : slices_Concat_sbyte_byte p0 = some r) {u0 : Value} (hp0 : IV I u0 p0) :
    CallsS Try.prog 54 #[u0] I (G) (fun v J G' => ∃ ra0 rc0, v = .slice ra0 r.length rc0 ∧ OV 5 (.slice ra0 r.length rc0) r :: G = G') := by
  refine CallsS.enter Try.func54 rfl Try.ntmps54 rfl (fun w0 => ?_)
  have hI := Mem.le.refl I
  obtain ⟨a0, c0, rfl⟩ := hp0.hd
  unfold slices_Concat_sbyte_byte at h
  refine WC.seq ?_
  refine WC.region ?_
  refine asg rfl rfl ?_
  refine WL.next ?_
  refine WC.seq ?_
  refine WC.region ?_
  refine asg rfl rfl ?_
  refine WL.next ?_
  refine WC.seq ?_
  refine WC.seq ?_
  refine WC.region ?_
  refine mv rfl rfl ?_
  refine ln et37 rfl (hp0.rd) rfl ?_
  refine mv rfl rfl ?_
  refine WL.next ?_
  obtain ⟨j27, hj27, h⟩ := bnd h
  refine WC.joinQ (σ := Int) (fun x26 => [(0, (.slice a0 p0.length c0)), (3, (.int .i64 x26))]) (fun x26 => G) (fun x26 J => x26 = j27) (fun kj27 => ?_) ?_
  · skip
    have lj27 := Mem.le.refl I
    refine WC.block ?_
    refine WC.loop (σ := Int × Int) (fun k (x28, x29) => slices_Concat_sbyte_byte_l0 p0 k x28 x29) _ (fun (x28, x29) => [(0, (.slice a0 p0.length c0)), (3, (.int .i64 x28)), (9, (.slice a0 p0.length c0)), (10, (.int .i64 (p0.length : Int))), (11, (.int .i64 x29))]) (fun (x28, x29) => G) (fun (x28, x29) J => True) (fun ⟨x28, x29⟩ => rfl) bigN ⟨0, 0⟩ hj27 trivial ⟨rfl, rfl, rfl, rfl, rfl, trivial⟩ rfl ?_
    rintro k0 ih0 ⟨x28, x29⟩ J41 hJ42 - hj27
    change slices_Concat_sbyte_byte_l0 p0 (k0 + 1) x28 x29 = _ at hj27
    rw [slices_Concat_sbyte_byte_l0] at hj27
    have hI := hI.trans hJ42
    have lj27 := lj27.trans hJ42
    replace hp0 := hp0.up hJ42
    have ll0 := hJ42
    refine WC.seq ?_
    refine WC.region ?_
    refine lt rfl rfl rfl ?_
    refine WL.next ?_
    refine WC.seq ?_
    refine WC.ite rfl hj27 (fun k43 hj27 => ?_) (fun k43 hj27 => ?_)
    · skip
      refine WC.skip ?_
      refine WX.then_ ?_
      refine WC.seq ?_
      refine WC.block ?_
      refine WC.seq ?_
      refine WC.region ?_
      obtain ⟨z44, e45, hj27⟩ := bnd hj27
      refine ixi et37 rfl rfl hp0 e45 rfl (fun uv46 h47 => ?_)
      refine ldi (α := List UInt8) na22 rfl h47 rfl (fun uv48 h49 => ?_)
      replace h49 := h49.sl; obtain ⟨a50, c51, rfl⟩ := h49.hd
      refine asg rfl rfl ?_
      refine WL.next ?_
      refine WC.seq ?_
      refine WC.region ?_
      refine mv rfl rfl ?_
      refine mv rfl rfl ?_
      refine ln et22 rfl (h49.rd) rfl ?_
      refine ad rfl rfl rfl ?_
      refine asg rfl rfl ?_
      refine WL.next ?_
      refine WC.seq ?_
      refine WC.region ?_
      refine mv rfl rfl ?_
      refine lt rfl rfl rfl ?_
      refine WL.next ?_
      refine WC.ite rfl hj27 (fun k52 hj27 => ?_) (fun k52 hj27 => ?_)
      · skip
        refine WC.region ?_
        cases hj27
      refine WC.skip ?_
      refine WX.block_normal ?_
      refine WX.then_ ?_
      refine WC.region ?_
      refine ad rfl rfl rfl ?_
      refine mv rfl rfl ?_
      refine WL.nil ?_
      refine WX.round ?_
      exact (ih0 ⟨w64 (x28 + (z44.length : Int)), w64 (x29 + 1)⟩ _ ll0 trivial hj27).sub ⟨rfl, rfl, rfl, rfl, rfl, trivial⟩
    refine WC.exit ?_
    refine WX.then_exit ?_
    refine WX.then_exit ?_
    refine WX.block_here ?_
    exact (kj27 x28 _ lj27 (Option.some.inj hj27)).sub ⟨rfl, rfl, trivial⟩
  rintro x26 J53 hJ54 rfl
  have hI := hI.trans hJ54
  replace hp0 := hp0.up hJ54
  refine WX.then_ ?_
  refine WC.seq ?_
  refine WC.region ?_
  refine mv rfl rfl ?_
  obtain ⟨x55, e56, h⟩ := bnd h
  refine call cl79 rfl rfl (W79 e56) (fun _ J57 _ hJ58 q59 => ?_)
  have hI := hI.trans hJ58
  replace hp0 := hp0.up hJ58
  obtain ⟨a60, c61, rfl, rfl⟩ := q59
  refine asg rfl rfl ?_
  refine WL.next ?_
  refine WC.seq ?_
  refine WC.seq ?_
  refine WC.region ?_
  refine mv rfl rfl ?_
  refine ln et37 rfl (hp0.rd) rfl ?_
  refine mv rfl rfl ?_
  refine WL.next ?_
  refine WC.block ?_
  refine WC.loop (σ := (List UInt8) × Int × (Option Addr) × Nat) (fun k (x63, x66, a64, c65) => slices_Concat_sbyte_byte_l1 p0 k x63 x66) _ (fun (x63, x66, a64, c65) => [(6, (.slice a64 x63.length c65)), (25, (.slice a0 p0.length c0)), (26, (.int .i64 (p0.length : Int))), (27, (.int .i64 x66))]) (fun (x63, x66, a64, c65) => OV 5 (.slice a64 x63.length c65) x63 :: G) (fun (x63, x66, a64, c65) J => True) (fun ⟨x63, x66, a64, c65⟩ => rfl) bigN ⟨x55, 0, _, _⟩ h trivial ⟨rfl, rfl, rfl, rfl, trivial⟩ rfl ?_
  rintro k1 ih1 ⟨x63, x66, a64, c65⟩ J80 hJ81 - h
  change slices_Concat_sbyte_byte_l1 p0 (k1 + 1) x63 x66 = _ at h
  rw [slices_Concat_sbyte_byte_l1] at h
  have hI := hI.trans hJ81
  replace hp0 := hp0.up hJ81
  have ll1 := hJ81
  refine WC.seq ?_
  refine WC.region ?_
  refine lt rfl rfl rfl ?_
  refine WL.next ?_
  refine WC.seq ?_
  refine WC.ite rfl h (fun k82 h => ?_) (fun k82 h => ?_)
  · skip
    refine WC.skip ?_
    refine WX.then_ ?_
    refine WC.seq ?_
    refine WC.block ?_
    refine WC.seq ?_
    refine WC.region ?_
    obtain ⟨z83, e84, h⟩ := bnd h
    refine ixi et37 rfl rfl hp0 e84 rfl (fun uv85 h86 => ?_)
    refine ldi (α := List UInt8) na22 rfl h86 rfl (fun uv87 h88 => ?_)
    replace h88 := h88.sl; obtain ⟨a89, c90, rfl⟩ := h88.hd
    refine asg rfl rfl ?_
    refine WL.next ?_
    refine WC.region ?_
    refine mv rfl rfl ?_
    refine mv rfl rfl ?_
    obtain ⟨k91, h⟩ := chk h
    refine ap et22 rfl rfl (h88.rd) k91 rfl (fun a92 c93 => ?_)
    refine asg rfl rfl ?_
    refine WL.nil ?_
    refine WX.block_normal ?_
    refine WX.then_ ?_
    refine WC.region ?_
    refine ad rfl rfl rfl ?_
    refine mv rfl rfl ?_
    refine WL.nil ?_
    refine WX.round ?_
    exact (ih1 ⟨(x63 ++ z83), w64 (x66 + 1), _, _⟩ _ ll1 trivial h).sub ⟨rfl, rfl, rfl, rfl, trivial⟩
  refine WC.exit ?_
  refine WX.then_exit ?_
  refine WX.then_exit ?_
  refine WX.block_here ?_
  refine WX.then_ ?_
  refine WC.seq ?_
  refine WC.region ?_
  refine mv rfl rfl ?_
  refine asg rfl rfl ?_
  refine WL.next ?_
  refine WC.ret ?_
  cases h
  exact ret1 Try.results54 rfl hI ⟨_, _, rfl, rfl⟩
theorem W60 {I : Mem} {G : List Asn} {p0 : List UInt8} {r : (List UInt8)} (h : span_Pack p0 = some r) {u0 : Value} (hp0 : IV I u0 p0) :
    CallsS Try.prog 60 #[u0] I (G) (fun v J G' => ∃ ra0 rc0, v = .slice ra0 r.length rc0 ∧ OV 5 (.slice ra0 r.length rc0) r :: G = G') := by
  refine CallsS.enter Try.func60 rfl Try.ntmps60 rfl (fun w0 => ?_)
  have hI := Mem.le.refl I
  obtain ⟨a0, c0, rfl⟩ := hp0.hd
  unfold span_Pack at h
  refine WC.seq ?_
  refine WC.region ?_
  refine asg rfl rfl ?_
  refine WL.next ?_
  refine WC.seq ?_
  refine WC.region ?_
  refine mv rfl rfl ?_
  refine ln et22 rfl (hp0.rd) rfl ?_
  obtain ⟨x1, e2, h⟩ := bnd h
  refine call cl59 rfl rfl (W59 e2) (fun _ J3 _ hJ4 q5 => ?_)
  have hI := hI.trans hJ4
  replace hp0 := hp0.up hJ4
  obtain ⟨a6, c7, rfl, rfl⟩ := q5
  refine mv rfl rfl ?_
  refine WL.freeze (fun J12 hJ13 h14 => ?_)
  have hI := hI.trans hJ13
  replace hp0 := hp0.up hJ13
  refine bs (os := [.tmp 5, .tmp 6]) (xs := ([x1, p0] : List (List UInt8))) et37 rfl rfl ⟨(h14).rv, (hp0).rv, trivial⟩ rfl rfl rfl rfl (fun a9 c10 => ?_)
  refine WL.freeze (fun J15 hJ16 h17 => ?_)
  have hI := hI.trans hJ16
  replace hp0 := hp0.up hJ16; replace h14 := h14.up hJ16
  obtain ⟨x18, e19, h⟩ := bnd h
  refine call cl54 rfl rfl (W54 e19 h17) (fun _ J20 _ hJ21 q22 => ?_)
  have hI := hI.trans hJ21
  replace hp0 := hp0.up hJ21; replace h14 := h14.up hJ21; replace h17 := h17.up hJ21
  obtain ⟨a23, c24, rfl, rfl⟩ := q22
  refine asg rfl rfl ?_
  refine WL.next ?_
  refine WC.ret ?_
  cases h
  exact ret1 Try.results60 rfl hI ⟨_, _, rfl, rfl⟩
theorem W61 {I : Mem} {G : List Asn} {p0 : Bool} {r : UInt8} (h : packet_truth p0 = some r) :
    CallsS Try.prog 61 #[.bool p0] I (G) (fun v J G' => v = .int .u8 (r.toNat : Int) ∧ G = G') := by
  refine CallsS.enter Try.func61 rfl Try.ntmps61 rfl (fun w0 => ?_)
  have hI := Mem.le.refl I
  unfold packet_truth at h
  refine WC.seq ?_
  refine WC.region ?_
  refine asg rfl rfl ?_
  refine WL.next ?_
  refine WC.seq ?_
  refine WC.seq ?_
  refine WC.region ?_
  refine mv rfl rfl ?_
  refine WL.next ?_
  refine WC.iteb rfl h (fun k1 h => ?_) (fun k1 h => ?_)
  · skip
    refine WC.seq ?_
    refine WC.region ?_
    refine asg rfl rfl ?_
    refine WL.next ?_
    refine WC.ret ?_
    refine WX.then_ret ?_
    cases h
    exact ret1 Try.results61 rfl hI ⟨rfl, rfl⟩
  refine WC.skip ?_
  refine WX.then_ ?_
  refine WC.seq ?_
  refine WC.region ?_
  refine asg rfl rfl ?_
  refine WL.next ?_
  refine WC.ret ?_
  cases h
  exact ret1 Try.results61 rfl hI ⟨rfl, rfl⟩
theorem W31 {I : Mem} {G : List Asn} {p0 : api_Packet} {r : (List UInt8) × Int} (h : packet_Plain p0 = some r) {u0_5 : Value} (hp0_5 : IV I u0_5 p0.Data) :
    CallsS Try.prog 31 #[.agg #[(.int .i64 p0.Kind), (.int .i64 p0.Path), (.int .i64 p0.Number), (.int .i64 p0.Of), (.int .i64 p0.From), u0_5, (.bool p0.Fin), (.int .i64 p0.Seen), (.int .i64 p0.Limit)]] I (G) (fun v J G' => ∃ ra0 rc0, v = .tuple #[.slice ra0 r.1.length rc0, .int .i64 r.2] ∧ OV 5 (.slice ra0 r.1.length rc0) r.1 :: G = G') := by
  refine CallsS.enter Try.func31 rfl Try.ntmps31 rfl (fun w0 => ?_)
  have hI := Mem.le.refl I
  obtain ⟨a0_5, c0_5, rfl⟩ := hp0_5.hd
  unfold packet_Plain at h
  refine WC.seq ?_
  refine WC.region ?_
  refine bx rfl rfl rfl (fun g1 => ?_)
  refine asg rfl rfl ?_
  refine asg rfl rfl ?_
  refine WL.next ?_
  refine WC.seq ?_
  refine WC.seq ?_
  refine WC.region ?_
  refine lda 0 ya41 rfl rfl rfl rfl rfl ?_
  obtain ⟨x3, e4, h⟩ := bnd h
  refine call cl32 rfl rfl (W32 e4 hp0_5) (fun _ J5 _ hJ6 q7 => ?_)
  have hI := hI.trans hJ6
  replace hp0_5 := hp0_5.up hJ6
  obtain ⟨rfl, rfl⟩ := q7
  refine asg rfl rfl ?_
  refine WL.next ?_
  refine WC.seq ?_
  refine WC.region ?_
  refine mv rfl rfl ?_
  refine ne rfl rfl rfl ?_
  refine WL.next ?_
  refine WC.ite rfl h (fun k8 h => ?_) (fun k8 h => ?_)
  · skip
    refine WC.seq ?_
    refine WC.region ?_
    refine mv rfl rfl ?_
    refine asg rfl rfl ?_
    refine asg rfl rfl ?_
    refine WL.del 0 ?_
    refine WL.next ?_
    refine WC.ret ?_
    refine WX.then_ret ?_
    refine WX.own_nil UInt8 5 ?_
    cases h
    exact ret2 Try.results31 rfl rfl hI ⟨_, _, rfl, rfl⟩
  refine WC.skip ?_
  refine WX.then_ ?_
  refine WC.seq ?_
  refine WC.sub (r := [(1, (.pointer (some ⟨g1, 0, none⟩)))]) ?_ ⟨rfl, trivial⟩
  obtain ⟨x13, e14, h⟩ := bnd h
  obtain ⟨x21, e22, h⟩ := bnd h
  obtain ⟨x41, e42, h⟩ := bnd h
  obtain ⟨x46, e47, h⟩ := bnd h
  refine WC.drawn mo (nthL [[], [0], [0, 1], [0, 1, 2], [], [4], [4, 5], [], [7], [4, 5, 6, 7, 8], [0, 1, 2, 3, 4, 5, 6, 7, 8, 9], [0, 1, 2, 3, 4, 5, 6, 7, 8, 9, 10], [0, 1, 2, 3, 4, 5, 6, 7, 8, 9, 10, 11]]) (nthL [[], [0], [1], [2], [], [4], [5], [], [7], [8], [3, 6, 9], [10], [11]]) (nthK [.val (.pointer (some ⟨g1, 0, none⟩)), .val (.int .i64 p0.Kind), .val (.int .u8 ((u8of p0.Kind).toNat : Int)), .any, .val (.pointer (some ⟨g1, 1, none⟩)), .val (.int .i64 p0.Path), .any, .val (.pointer (some ⟨g1, 2, none⟩)), .val (.int .i64 p0.Number), .any, .any, .any, .any]) [⟨none, none, [1, 5, 8], [], fun _ => bl g1 #[(.int .i64 p0.Kind), (.int .i64 p0.Path), (.int .i64 p0.Number), (.int .i64 p0.Of), (.int .i64 p0.From), (.slice a0_5 p0.Data.length c0_5), (.bool p0.Fin), (.int .i64 p0.Seen), (.int .i64 p0.Limit)] 41⟩, ⟨(some 3), (some 10), [], [3], fun l => OV 5 (vget l 0) ([(u8of p0.Kind)] : List UInt8)⟩, ⟨(some 6), (some 10), [], [6], fun l => OV 5 (vget l 0) x13⟩, ⟨(some 9), (some 10), [], [9], fun l => OV 5 (vget l 0) x21⟩, ⟨(some 10), (some 11), [], [10], fun l => OV 22 (vget l 0) x41⟩, ⟨(some 11), (some 12), [], [11], fun l => OV 5 (vget l 0) x46⟩, ⟨(some 12), none, [], [12], fun l => OV 5 (vget l 0) x46⟩] (by kernel_rfl) (by kernel_rfl) (by kernel_rfl) (H := G) rfl ⟨?_, ?_, ?_, ?_, ?_, ?_, ?_, ?_, ?_, ?_, ?_, ?_, ?_, trivial⟩ ?_
  · intro Q ρ I1 H hI1 hk hpost
    have hc := Mem.le.refl I1
    refine fa fl41_0 rfl rfl ?_
    refine WL.nil ?_
    exact hpost _ _ hc rfl _ (fun _ hd => by obtain rfl := Option.some.inj hd; exact ⟨rfl, trivial⟩)
  · intro Q ρ I1 H hI1 hk hpost
    obtain ⟨_, -⟩ := hk
    have hc := Mem.le.refl I1
    refine ld 0 na3 rfl rfl rfl rfl ?_
    refine WL.nil ?_
    exact hpost _ _ hc rfl _ (fun _ hd => by obtain rfl := Option.some.inj hd; exact ⟨rfl, trivial⟩)
  · intro Q ρ I1 H hI1 hk hpost
    obtain ⟨_, -⟩ := hk
    have hc := Mem.le.refl I1
    refine cv8 Try.underlying3 Try.underlying5 rfl rfl ?_
    refine WL.nil ?_
    exact hpost _ _ hc rfl _ (fun _ hd => by obtain rfl := Option.some.inj hd; exact ⟨rfl, trivial⟩)
  · intro Q ρ I1 H hI1 hk hpost
    obtain ⟨_, -⟩ := hk
    have hc := Mem.le.refl I1
    refine bs (os := [.tmp 13]) (xs := ([(u8of p0.Kind)] : List UInt8)) et22 rfl rfl ⟨(Rv.of_u8 _ (u8of p0.Kind)), trivial⟩ rfl rfl rfl rfl (fun a10 c11 => ?_)
    refine WL.nil ?_
    exact hpost _ _ hc trivial _ (fun _ hd => by obtain rfl := Option.some.inj hd; exact ⟨rfl, trivial⟩)
  · intro Q ρ I1 H hI1 hk hpost
    have hc := Mem.le.refl I1
    refine fa fl41_1 rfl rfl ?_
    refine WL.nil ?_
    exact hpost _ _ hc rfl _ (fun _ hd => by obtain rfl := Option.some.inj hd; exact ⟨rfl, trivial⟩)
  · intro Q ρ I1 H hI1 hk hpost
    obtain ⟨_, -⟩ := hk
    have hc := Mem.le.refl I1
    refine ld 0 na3 rfl rfl rfl rfl ?_
    refine WL.nil ?_
    exact hpost _ _ hc rfl _ (fun _ hd => by obtain rfl := Option.some.inj hd; exact ⟨rfl, trivial⟩)
  · intro Q ρ I1 H hI1 hk hpost
    obtain ⟨_, -⟩ := hk
    have hc := Mem.le.refl I1
    refine call cl59 rfl rfl (W59 e14) (fun _ J15 _ hJ16 q17 => ?_)
    have hc := hc.trans hJ16
    obtain ⟨a18, c19, rfl, rfl⟩ := q17
    refine WL.nil ?_
    exact hpost _ _ hc trivial _ (fun _ hd => by obtain rfl := Option.some.inj hd; exact ⟨rfl, trivial⟩)
  · intro Q ρ I1 H hI1 hk hpost
    have hc := Mem.le.refl I1
    refine fa fl41_2 rfl rfl ?_
    refine WL.nil ?_
    exact hpost _ _ hc rfl _ (fun _ hd => by obtain rfl := Option.some.inj hd; exact ⟨rfl, trivial⟩)
  · intro Q ρ I1 H hI1 hk hpost
    obtain ⟨_, -⟩ := hk
    have hc := Mem.le.refl I1
    refine ld 0 na3 rfl rfl rfl rfl ?_
    refine WL.nil ?_
    exact hpost _ _ hc rfl _ (fun _ hd => by obtain rfl := Option.some.inj hd; exact ⟨rfl, trivial⟩)
  · intro Q ρ I1 H hI1 hk hpost
    obtain ⟨_, -⟩ := hk
    have hc := Mem.le.refl I1
    refine call cl59 rfl rfl (W59 e22) (fun _ J23 _ hJ24 q25 => ?_)
    have hc := hc.trans hJ24
    obtain ⟨a26, c27, rfl, rfl⟩ := q25
    refine WL.nil ?_
    exact hpost _ _ hc trivial _ (fun _ hd => by obtain rfl := Option.some.inj hd; exact ⟨rfl, trivial⟩)
  · intro Q ρ I1 H hI1 hk hpost
    obtain ⟨_, _, _, -⟩ := hk
    have hc := Mem.le.refl I1
    refine WL.freeze (fun J32 hJ33 h34 => ?_)
    have hc := hc.trans hJ33
    refine WL.freeze (fun J35 hJ36 h37 => ?_)
    have hc := hc.trans hJ36
    replace h34 := h34.up hJ36
    refine WL.freeze (fun J38 hJ39 h40 => ?_)
    have hc := hc.trans hJ39
    replace h34 := h34.up hJ39; replace h37 := h37.up hJ39
    refine bs (os := [.tmp 14, .tmp 17, .tmp 20]) (xs := ([([(u8of p0.Kind)] : List UInt8), x13, x21] : List (List UInt8))) et37 rfl rfl ⟨(h34).rv, (h37).rv, (h40).rv, trivial⟩ rfl rfl rfl rfl (fun a29 c30 => ?_)
    refine WL.ren (Option.some.inj e42) ?_
    refine WL.nil ?_
    exact hpost _ _ hc trivial _ (fun _ hd => by obtain rfl := Option.some.inj hd; exact ⟨rfl, trivial⟩)
  · intro Q ρ I1 H hI1 hk hpost
    obtain ⟨_, -⟩ := hk
    have hc := Mem.le.refl I1
    refine WL.freeze (fun J43 hJ44 h45 => ?_)
    have hc := hc.trans hJ44
    refine call cl54 rfl rfl (W54 e47 h45) (fun _ J48 _ hJ49 q50 => ?_)
    have hc := hc.trans hJ49
    replace h45 := h45.up hJ49
    obtain ⟨a51, c52, rfl, rfl⟩ := q50
    refine WL.nil ?_
    exact hpost _ _ hc trivial _ (fun _ hd => by obtain rfl := Option.some.inj hd; exact ⟨rfl, trivial⟩)
  · intro Q ρ I1 H hI1 hk hpost
    obtain ⟨_, -⟩ := hk
    have hc := Mem.le.refl I1
    refine asg rfl rfl ?_
    refine WL.nil ?_
    exact hpost _ _ hc trivial _ (fun _ hd => by obtain rfl := Option.some.inj hd; exact ⟨rfl, trivial⟩)
  rintro ρ J54 hJ55 -
  refine WX.sub (r := [(1, (.pointer (some ⟨g1, 0, none⟩))), (5, (ρ 12))]) ?_ ⟨rfl, rfl, trivial⟩
  refine WX.is (H := bl g1 #[(.int .i64 p0.Kind), (.int .i64 p0.Path), (.int .i64 p0.Number), (.int .i64 p0.Of), (.int .i64 p0.From), (.slice a0_5 p0.Data.length c0_5), (.bool p0.Fin), (.int .i64 p0.Seen), (.int .i64 p0.Limit)] 41 :: OV 5 (ρ 12) x46 :: G) rfl ?_
  have hI := hI.trans hJ55
  replace hp0_5 := hp0_5.up hJ55
  refine WX.front 1 ?_
  generalize ρ 12 = uv56 at *; refine WX.hd (fun a57 c58 e => ?_); subst e
  refine WX.then_ ?_
  refine WC.seq ?_
  refine WC.seq ?_
  refine WC.region ?_
  refine fa fl41_0 rfl rfl ?_
  refine ld 1 na3 rfl rfl rfl rfl ?_
  refine WL.next ?_
  refine WC.block ?_
  refine WC.seq ?_
  refine WC.region ?_
  refine eq rfl rfl rfl ?_
  refine asg rfl rfl ?_
  refine WL.next ?_
  refine WC.ite rfl h (fun k59 h => ?_) (fun k59 h => ?_)
  · skip
    refine WC.region ?_
    refine mv rfl rfl ?_
    refine fa fl41_3 rfl rfl ?_
    refine ld 1 na3 rfl rfl rfl rfl ?_
    obtain ⟨x60, e61, h⟩ := bnd h
    refine call cl59 rfl rfl (W59 e61) (fun _ J62 _ hJ63 q64 => ?_)
    have hI := hI.trans hJ63
    replace hp0_5 := hp0_5.up hJ63
    obtain ⟨a65, c66, rfl, rfl⟩ := q64
    refine WL.front 1 ?_
    obtain ⟨k68, h⟩ := chk h
    refine ap et22 rfl rfl ((OV.rd 1 rfl)) k68 rfl (fun a69 c70 => ?_)
    refine asg rfl rfl ?_
    refine WL.del 1 ?_
    refine WL.del 1 ?_
    refine WL.nil ?_
    refine WX.block_normal ?_
    refine WX.then_ ?_
    refine WC.seq ?_
    refine WC.region ?_
    refine mv rfl rfl ?_
    refine asg rfl rfl ?_
    refine asg rfl rfl ?_
    refine WL.next ?_
    refine WC.ret ?_
    cases h
    exact ret2 Try.results31 rfl rfl hI ⟨_, _, rfl, rfl⟩
  refine WC.seq ?_
  refine WC.region ?_
  refine eq rfl rfl rfl ?_
  refine asg rfl rfl ?_
  refine WL.next ?_
  refine WC.ite rfl h (fun k71 h => ?_) (fun k71 h => ?_)
  · skip
    refine WC.sub (r := [(1, (.pointer (some ⟨g1, 0, none⟩))), (5, (.slice a57 x46.length c58))]) ?_ ⟨rfl, rfl, trivial⟩
    obtain ⟨x72, e73, h⟩ := bnd h
    obtain ⟨x80, e81, h⟩ := bnd h
    obtain ⟨x103, e104, h⟩ := bnd h
    obtain ⟨x111, e112, h⟩ := bnd h
    obtain ⟨k119, h⟩ := chk h
    refine WC.front 1 ?_
    refine WC.drawn mo (nthL [[], [], [1], [1, 2], [], [4], [1, 2, 3, 4, 5], [0, 1, 2, 3, 4, 5, 6], [0, 1, 2, 3, 4, 5, 6, 7], [], [9], [0, 1, 2, 3, 4, 5, 6, 7, 8, 9, 10], [0, 1, 2, 3, 4, 5, 6, 7, 8, 9, 10, 11], [0, 1, 2, 3, 4, 5, 6, 7, 8, 9, 10, 11, 12], [0, 1, 2, 3, 4, 5, 6, 7, 8, 9, 10, 11, 12, 13]]) (nthL [[], [], [1], [2], [], [4], [5], [0, 3, 6], [7], [], [9], [10], [11], [8, 12], [13]]) (nthK [.val (.slice a57 x46.length c58), .val (.pointer (some ⟨g1, 4, none⟩)), .val (.int .i64 p0.From), .any, .val (.pointer (some ⟨g1, 5, none⟩)), .val (.slice a0_5 p0.Data.length c0_5), .any, .any, .any, .val (.pointer (some ⟨g1, 6, none⟩)), .val (.bool p0.Fin), .val (.int .u8 (x111.toNat : Int)), .any, .any, .any]) [⟨none, none, [2, 5, 10], [], fun _ => bl g1 #[(.int .i64 p0.Kind), (.int .i64 p0.Path), (.int .i64 p0.Number), (.int .i64 p0.Of), (.int .i64 p0.From), (.slice a0_5 p0.Data.length c0_5), (.bool p0.Fin), (.int .i64 p0.Seen), (.int .i64 p0.Limit)] 41⟩, ⟨(some 3), (some 7), [], [3], fun l => OV 5 (vget l 0) x72⟩, ⟨(some 6), (some 7), [], [6], fun l => OV 5 (vget l 0) x80⟩, ⟨none, (some 7), [], [], fun _ => OV 5 (.slice a57 x46.length c58) x46⟩, ⟨(some 7), (some 8), [], [7], fun l => OV 22 (vget l 0) ([x46, x72, x80] : List (List UInt8))⟩, ⟨(some 8), (some 13), [], [8], fun l => OV 5 (vget l 0) x103⟩, ⟨(some 12), none, [13], [12], fun l => OV 5 (vget l 0) ([x111] : List UInt8)⟩, ⟨(some 13), (some 14), [], [13], fun l => OV 5 (vget l 0) (x103 ++ ([x111] : List UInt8))⟩, ⟨(some 14), none, [], [14], fun l => OV 5 (vget l 0) (x103 ++ ([x111] : List UInt8))⟩] (by kernel_rfl) (by kernel_rfl) (by kernel_rfl) (H := G) rfl ⟨?_, ?_, ?_, ?_, ?_, ?_, ?_, ?_, ?_, ?_, ?_, ?_, ?_, ?_, ?_, trivial⟩ ?_
    · intro Q ρ I1 H hI1 hk hpost
      have hc := Mem.le.refl I1
      refine mv rfl rfl ?_
      refine WL.nil ?_
      exact hpost _ _ hc rfl _ (fun _ hd => by obtain rfl := Option.some.inj hd; exact ⟨rfl, trivial⟩)
    · intro Q ρ I1 H hI1 hk hpost
      have hc := Mem.le.refl I1
      refine fa fl41_4 rfl rfl ?_
      refine WL.nil ?_
      exact hpost _ _ hc rfl _ (fun _ hd => by obtain rfl := Option.some.inj hd; exact ⟨rfl, trivial⟩)
    · intro Q ρ I1 H hI1 hk hpost
      obtain ⟨_, -⟩ := hk
      have hc := Mem.le.refl I1
      refine ld 0 na3 rfl rfl rfl rfl ?_
      refine WL.nil ?_
      exact hpost _ _ hc rfl _ (fun _ hd => by obtain rfl := Option.some.inj hd; exact ⟨rfl, trivial⟩)
    · intro Q ρ I1 H hI1 hk hpost
      obtain ⟨_, -⟩ := hk
      have hc := Mem.le.refl I1
      refine call cl59 rfl rfl (W59 e73) (fun _ J74 _ hJ75 q76 => ?_)
      have hc := hc.trans hJ75
      obtain ⟨a77, c78, rfl, rfl⟩ := q76
      refine WL.nil ?_
      exact hpost _ _ hc trivial _ (fun _ hd => by obtain rfl := Option.some.inj hd; exact ⟨rfl, trivial⟩)
    · intro Q ρ I1 H hI1 hk hpost
      have hc := Mem.le.refl I1
      refine fa fl41_5 rfl rfl ?_
      refine WL.nil ?_
      exact hpost _ _ hc rfl _ (fun _ hd => by obtain rfl := Option.some.inj hd; exact ⟨rfl, trivial⟩)
    · intro Q ρ I1 H hI1 hk hpost
      obtain ⟨_, -⟩ := hk
      have hc := Mem.le.refl I1
      refine ld 0 na22 rfl rfl rfl rfl ?_
      refine WL.nil ?_
      exact hpost _ _ hc rfl _ (fun _ hd => by obtain rfl := Option.some.inj hd; exact ⟨rfl, trivial⟩)
    · intro Q ρ I1 H hI1 hk hpost
      obtain ⟨_, -⟩ := hk
      replace hp0_5 := hp0_5.up hI1
      have hc := Mem.le.refl I1
      refine call cl60 rfl rfl (W60 e81 hp0_5) (fun _ J82 _ hJ83 q84 => ?_)
      have hc := hc.trans hJ83
      replace hp0_5 := hp0_5.up hJ83
      obtain ⟨a85, c86, rfl, rfl⟩ := q84
      refine WL.nil ?_
      exact hpost _ _ hc trivial _ (fun _ hd => by obtain rfl := Option.some.inj hd; exact ⟨rfl, trivial⟩)
    · intro Q ρ I1 H hI1 hk hpost
      obtain ⟨_, _, _, -⟩ := hk
      have hc := Mem.le.refl I1
      refine WL.front 2 ?_
      refine WL.freeze (fun J91 hJ92 h93 => ?_)
      have hc := hc.trans hJ92
      refine WL.freeze (fun J94 hJ95 h96 => ?_)
      have hc := hc.trans hJ95
      replace h93 := h93.up hJ95
      refine WL.freeze (fun J97 hJ98 h99 => ?_)
      have hc := hc.trans hJ98
      replace h93 := h93.up hJ98; replace h96 := h96.up hJ98
      refine bs (os := [.tmp 34, .tmp 37, .tmp 40]) (xs := ([x46, x72, x80] : List (List UInt8))) et37 rfl rfl ⟨(h93).rv, (h96).rv, (h99).rv, trivial⟩ rfl rfl rfl rfl (fun a88 c89 => ?_)
      refine WL.nil ?_
      exact hpost _ _ hc trivial _ (fun _ hd => by obtain rfl := Option.some.inj hd; exact ⟨rfl, trivial⟩)
    · intro Q ρ I1 H hI1 hk hpost
      obtain ⟨_, -⟩ := hk
      have hc := Mem.le.refl I1
      refine WL.freeze (fun J100 hJ101 h102 => ?_)
      have hc := hc.trans hJ101
      refine call cl54 rfl rfl (W54 e104 h102) (fun _ J105 _ hJ106 q107 => ?_)
      have hc := hc.trans hJ106
      replace h102 := h102.up hJ106
      obtain ⟨a108, c109, rfl, rfl⟩ := q107
      refine WL.nil ?_
      exact hpost _ _ hc trivial _ (fun _ hd => by obtain rfl := Option.some.inj hd; exact ⟨rfl, trivial⟩)
    · intro Q ρ I1 H hI1 hk hpost
      have hc := Mem.le.refl I1
      refine fa fl41_6 rfl rfl ?_
      refine WL.nil ?_
      exact hpost _ _ hc rfl _ (fun _ hd => by obtain rfl := Option.some.inj hd; exact ⟨rfl, trivial⟩)
    · intro Q ρ I1 H hI1 hk hpost
      obtain ⟨_, -⟩ := hk
      have hc := Mem.le.refl I1
      refine ld 0 na4 rfl rfl rfl rfl ?_
      refine WL.nil ?_
      exact hpost _ _ hc rfl _ (fun _ hd => by obtain rfl := Option.some.inj hd; exact ⟨rfl, trivial⟩)
    · intro Q ρ I1 H hI1 hk hpost
      obtain ⟨_, -⟩ := hk
      have hc := Mem.le.refl I1
      refine call cl61 rfl rfl (W61 e112) (fun _ J113 _ hJ114 q115 => ?_)
      have hc := hc.trans hJ114
      obtain ⟨rfl, rfl⟩ := q115
      refine WL.nil ?_
      exact hpost _ _ hc rfl _ (fun _ hd => by obtain rfl := Option.some.inj hd; exact ⟨rfl, trivial⟩)
    · intro Q ρ I1 H hI1 hk hpost
      obtain ⟨_, -⟩ := hk
      have hc := Mem.le.refl I1
      refine bs (os := [.tmp 45]) (xs := ([x111] : List UInt8)) et22 rfl rfl ⟨(Rv.of_u8 _ x111), trivial⟩ rfl rfl rfl rfl (fun a116 c117 => ?_)
      refine WL.nil ?_
      exact hpost _ _ hc trivial _ (fun _ hd => by obtain rfl := Option.some.inj hd; exact ⟨rfl, trivial⟩)
    · intro Q ρ I1 H hI1 hk hpost
      obtain ⟨_, _, -⟩ := hk
      have hc := Mem.le.refl I1
      refine ap et22 rfl rfl ((OV.rd 1 rfl)) k119 rfl (fun a120 c121 => ?_)
      refine WL.front 1 ?_
      refine WL.front 1 ?_
      refine WL.nil ?_
      exact hpost _ _ hc trivial _ (fun _ hd => by obtain rfl := Option.some.inj hd; exact ⟨rfl, trivial⟩)
    · intro Q ρ I1 H hI1 hk hpost
      obtain ⟨_, -⟩ := hk
      have hc := Mem.le.refl I1
      refine asg rfl rfl ?_
      refine WL.nil ?_
      exact hpost _ _ hc trivial _ (fun _ hd => by obtain rfl := Option.some.inj hd; exact ⟨rfl, trivial⟩)
    rintro ρ J122 hJ123 -
    refine WX.sub (r := [(5, (ρ 14))]) ?_ ⟨rfl, trivial⟩
    refine WX.is (H := bl g1 #[(.int .i64 p0.Kind), (.int .i64 p0.Path), (.int .i64 p0.Number), (.int .i64 p0.Of), (.int .i64 p0.From), (.slice a0_5 p0.Data.length c0_5), (.bool p0.Fin), (.int .i64 p0.Seen), (.int .i64 p0.Limit)] 41 :: OV 5 (ρ 12) ([x111] : List UInt8) :: OV 5 (ρ 14) (x103 ++ ([x111] : List UInt8)) :: G) rfl ?_
    have hI := hI.trans hJ123
    replace hp0_5 := hp0_5.up hJ123
    refine WX.front 2 ?_
    generalize ρ 14 = uv124 at *; refine WX.hd (fun a125 c126 e => ?_); subst e
    refine WX.block_normal ?_
    refine WX.then_ ?_
    refine WC.seq ?_
    refine WC.region ?_
    refine mv rfl rfl ?_
    refine asg rfl rfl ?_
    refine asg rfl rfl ?_
    refine WL.del 1 ?_
    refine WL.del 1 ?_
    refine WL.next ?_
    refine WC.ret ?_
    cases h
    exact ret2 Try.results31 rfl rfl hI ⟨_, _, rfl, rfl⟩
  refine WC.seq ?_
  refine WC.region ?_
  refine eq rfl rfl rfl ?_
  refine asg rfl rfl ?_
  refine WL.next ?_
  refine WC.ite rfl h (fun k127 h => ?_) (fun k127 h => ?_)
  · skip
    refine WC.sub (r := [(1, (.pointer (some ⟨g1, 0, none⟩))), (5, (.slice a57 x46.length c58))]) ?_ ⟨rfl, rfl, trivial⟩
    obtain ⟨x128, e129, h⟩ := bnd h
    obtain ⟨x136, e137, h⟩ := bnd h
    obtain ⟨x144, e145, h⟩ := bnd h
    obtain ⟨x170, e171, h⟩ := bnd h
    refine WC.front 1 ?_
    refine WC.drawn mo (nthL [[], [], [1], [1, 2], [], [4], [1, 2, 3, 4, 5], [], [7], [1, 2, 3, 4, 5, 6, 7, 8], [0, 1, 2, 3, 4, 5, 6, 7, 8, 9], [0, 1, 2, 3, 4, 5, 6, 7, 8, 9, 10], [0, 1, 2, 3, 4, 5, 6, 7, 8, 9, 10, 11]]) (nthL [[], [], [1], [2], [], [4], [5], [], [7], [8], [0, 3, 6, 9], [10], [11]]) (nthK [.val (.slice a57 x46.length c58), .val (.pointer (some ⟨g1, 3, none⟩)), .val (.int .i64 p0.Of), .any, .val (.pointer (some ⟨g1, 7, none⟩)), .val (.int .i64 p0.Seen), .any, .val (.pointer (some ⟨g1, 8, none⟩)), .val (.int .i64 p0.Limit), .any, .any, .any, .any]) [⟨none, none, [2, 5, 8], [], fun _ => bl g1 #[(.int .i64 p0.Kind), (.int .i64 p0.Path), (.int .i64 p0.Number), (.int .i64 p0.Of), (.int .i64 p0.From), (.slice a0_5 p0.Data.length c0_5), (.bool p0.Fin), (.int .i64 p0.Seen), (.int .i64 p0.Limit)] 41⟩, ⟨(some 3), (some 10), [], [3], fun l => OV 5 (vget l 0) x128⟩, ⟨(some 6), (some 10), [], [6], fun l => OV 5 (vget l 0) x136⟩, ⟨(some 9), (some 10), [], [9], fun l => OV 5 (vget l 0) x144⟩, ⟨none, (some 10), [], [], fun _ => OV 5 (.slice a57 x46.length c58) x46⟩, ⟨(some 10), (some 11), [], [10], fun l => OV 22 (vget l 0) ([x46, x128, x136, x144] : List (List UInt8))⟩, ⟨(some 11), (some 12), [], [11], fun l => OV 5 (vget l 0) x170⟩, ⟨(some 12), none, [], [12], fun l => OV 5 (vget l 0) x170⟩] (by kernel_rfl) (by kernel_rfl) (by kernel_rfl) (H := G) rfl ⟨?_, ?_, ?_, ?_, ?_, ?_, ?_, ?_, ?_, ?_, ?_, ?_, ?_, trivial⟩ ?_
    · intro Q ρ I1 H hI1 hk hpost
      have hc := Mem.le.refl I1
      refine mv rfl rfl ?_
      refine WL.nil ?_
      exact hpost _ _ hc rfl _ (fun _ hd => by obtain rfl := Option.some.inj hd; exact ⟨rfl, trivial⟩)
    · intro Q ρ I1 H hI1 hk hpost
      have hc := Mem.le.refl I1
      refine fa fl41_3 rfl rfl ?_
      refine WL.nil ?_
      exact hpost _ _ hc rfl _ (fun _ hd => by obtain rfl := Option.some.inj hd; exact ⟨rfl, trivial⟩)
    · intro Q ρ I1 H hI1 hk hpost
      obtain ⟨_, -⟩ := hk
      have hc := Mem.le.refl I1
      refine ld 0 na3 rfl rfl rfl rfl ?_
      refine WL.nil ?_
      exact hpost _ _ hc rfl _ (fun _ hd => by obtain rfl := Option.some.inj hd; exact ⟨rfl, trivial⟩)
    · intro Q ρ I1 H hI1 hk hpost
      obtain ⟨_, -⟩ := hk
      have hc := Mem.le.refl I1
      refine call cl59 rfl rfl (W59 e129) (fun _ J130 _ hJ131 q132 => ?_)
      have hc := hc.trans hJ131
      obtain ⟨a133, c134, rfl, rfl⟩ := q132
      refine WL.nil ?_
      exact hpost _ _ hc trivial _ (fun _ hd => by obtain rfl := Option.some.inj hd; exact ⟨rfl, trivial⟩)
    · intro Q ρ I1 H hI1 hk hpost
      have hc := Mem.le.refl I1
      refine fa fl41_7 rfl rfl ?_
      refine WL.nil ?_
      exact hpost _ _ hc rfl _ (fun _ hd => by obtain rfl := Option.some.inj hd; exact ⟨rfl, trivial⟩)
    · intro Q ρ I1 H hI1 hk hpost
      obtain ⟨_, -⟩ := hk
      have hc := Mem.le.refl I1
      refine ld 0 na3 rfl rfl rfl rfl ?_
      refine WL.nil ?_
      exact hpost _ _ hc rfl _ (fun _ hd => by obtain rfl := Option.some.inj hd; exact ⟨rfl, trivial⟩)
    · intro Q ρ I1 H hI1 hk hpost
      obtain ⟨_, -⟩ := hk
      have hc := Mem.le.refl I1
      refine call cl59 rfl rfl (W59 e137) (fun _ J138 _ hJ139 q140 => ?_)
      have hc := hc.trans hJ139
      obtain ⟨a141, c142, rfl, rfl⟩ := q140
      refine WL.nil ?_
      exact hpost _ _ hc trivial _ (fun _ hd => by obtain rfl := Option.some.inj hd; exact ⟨rfl, trivial⟩)
    · intro Q ρ I1 H hI1 hk hpost
      have hc := Mem.le.refl I1
      refine fa fl41_8 rfl rfl ?_
      refine WL.nil ?_
      exact hpost _ _ hc rfl _ (fun _ hd => by obtain rfl := Option.some.inj hd; exact ⟨rfl, trivial⟩)
    · intro Q ρ I1 H hI1 hk hpost
      obtain ⟨_, -⟩ := hk
      have hc := Mem.le.refl I1
      refine ld 0 na3 rfl rfl rfl rfl ?_
      refine WL.nil ?_
      exact hpost _ _ hc rfl _ (fun _ hd => by obtain rfl := Option.some.inj hd; exact ⟨rfl, trivial⟩)
    · intro Q ρ I1 H hI1 hk hpost
      obtain ⟨_, -⟩ := hk
      have hc := Mem.le.refl I1
      refine call cl59 rfl rfl (W59 e145) (fun _ J146 _ hJ147 q148 => ?_)
      have hc := hc.trans hJ147
      obtain ⟨a149, c150, rfl, rfl⟩ := q148
      refine WL.nil ?_
      exact hpost _ _ hc trivial _ (fun _ hd => by obtain rfl := Option.some.inj hd; exact ⟨rfl, trivial⟩)
    · intro Q ρ I1 H hI1 hk hpost
      obtain ⟨_, _, _, _, -⟩ := hk
      have hc := Mem.le.refl I1
      refine WL.front 3 ?_
      refine WL.freeze (fun J155 hJ156 h157 => ?_)
      have hc := hc.trans hJ156
      refine WL.freeze (fun J158 hJ159 h160 => ?_)
      have hc := hc.trans hJ159
      replace h157 := h157.up hJ159
      refine WL.freeze (fun J161 hJ162 h163 => ?_)
      have hc := hc.trans hJ162
      replace h157 := h157.up hJ162; replace h160 := h160.up hJ162
      refine WL.freeze (fun J164 hJ165 h166 => ?_)
      have hc := hc.trans hJ165
      replace h157 := h157.up hJ165; replace h160 := h160.up hJ165; replace h163 := h163.up hJ165
      refine bs (os := [.tmp 50, .tmp 53, .tmp 56, .tmp 59]) (xs := ([x46, x128, x136, x144] : List (List UInt8))) et37 rfl rfl ⟨(h157).rv, (h160).rv, (h163).rv, (h166).rv, trivial⟩ rfl rfl rfl rfl (fun a152 c153 => ?_)
      refine WL.nil ?_
      exact hpost _ _ hc trivial _ (fun _ hd => by obtain rfl := Option.some.inj hd; exact ⟨rfl, trivial⟩)
    · intro Q ρ I1 H hI1 hk hpost
      obtain ⟨_, -⟩ := hk
      have hc := Mem.le.refl I1
      refine WL.freeze (fun J167 hJ168 h169 => ?_)
      have hc := hc.trans hJ168
      refine call cl54 rfl rfl (W54 e171 h169) (fun _ J172 _ hJ173 q174 => ?_)
      have hc := hc.trans hJ173
      replace h169 := h169.up hJ173
      obtain ⟨a175, c176, rfl, rfl⟩ := q174
      refine WL.nil ?_
      exact hpost _ _ hc trivial _ (fun _ hd => by obtain rfl := Option.some.inj hd; exact ⟨rfl, trivial⟩)
    · intro Q ρ I1 H hI1 hk hpost
      obtain ⟨_, -⟩ := hk
      have hc := Mem.le.refl I1
      refine asg rfl rfl ?_
      refine WL.nil ?_
      exact hpost _ _ hc trivial _ (fun _ hd => by obtain rfl := Option.some.inj hd; exact ⟨rfl, trivial⟩)
    rintro ρ J178 hJ179 -
    refine WX.sub (r := [(5, (ρ 12))]) ?_ ⟨rfl, trivial⟩
    refine WX.is (H := bl g1 #[(.int .i64 p0.Kind), (.int .i64 p0.Path), (.int .i64 p0.Number), (.int .i64 p0.Of), (.int .i64 p0.From), (.slice a0_5 p0.Data.length c0_5), (.bool p0.Fin), (.int .i64 p0.Seen), (.int .i64 p0.Limit)] 41 :: OV 5 (ρ 12) x170 :: G) rfl ?_
    have hI := hI.trans hJ179
    replace hp0_5 := hp0_5.up hJ179
    refine WX.front 1 ?_
    generalize ρ 12 = uv180 at *; refine WX.hd (fun a181 c182 e => ?_); subst e
    refine WX.block_normal ?_
    refine WX.then_ ?_
    refine WC.seq ?_
    refine WC.region ?_
    refine mv rfl rfl ?_
    refine asg rfl rfl ?_
    refine asg rfl rfl ?_
    refine WL.del 1 ?_
    refine WL.next ?_
    refine WC.ret ?_
    cases h
    exact ret2 Try.results31 rfl rfl hI ⟨_, _, rfl, rfl⟩
  refine WC.skip ?_
  refine WX.block_normal ?_
  refine WX.then_ ?_
  refine WC.seq ?_
  refine WC.region ?_
  refine mv rfl rfl ?_
  refine asg rfl rfl ?_
  refine asg rfl rfl ?_
  refine WL.del 1 ?_
  refine WL.next ?_
  refine WC.ret ?_
  cases h
  exact ret2 Try.results31 rfl rfl hI ⟨_, _, rfl, rfl⟩
theorem W30 {I : Mem} {G : List Asn} {p0 : api_Packet} {r : (List UInt8) × Int} (h : packet_Pack p0 = some r) {u0_5 : Value} (hp0_5 : IV I u0_5 p0.Data) :
    CallsS Try.prog 30 #[.agg #[(.int .i64 p0.Kind), (.int .i64 p0.Path), (.int .i64 p0.Number), (.int .i64 p0.Of), (.int .i64 p0.From), u0_5, (.bool p0.Fin), (.int .i64 p0.Seen), (.int .i64 p0.Limit)]] I (G) (fun v J G' => ∃ ra0 rc0, v = .tuple #[.slice ra0 r.1.length rc0, .int .i64 r.2] ∧ OV 5 (.slice ra0 r.1.length rc0) r.1 :: G = G') := by
  refine CallsS.enter Try.func30 rfl Try.ntmps30 rfl (fun w0 => ?_)
  have hI := Mem.le.refl I
  obtain ⟨a0_5, c0_5, rfl⟩ := hp0_5.hd
  unfold packet_Pack at h
  refine WC.seq ?_
  refine WC.region ?_
  refine bx rfl rfl rfl (fun g1 => ?_)
  refine asg rfl rfl ?_
  refine asg rfl rfl ?_
  refine WL.next ?_
  refine WC.seq ?_
  refine WC.region ?_
  refine lda 0 ya41 rfl rfl rfl rfl rfl ?_
  obtain ⟨⟨x3, x4⟩, e5, h⟩ := bnd h
  refine call cl31 rfl rfl (W31 e5 hp0_5) (fun _ J6 _ hJ7 q8 => ?_)
  have hI := hI.trans hJ7
  replace hp0_5 := hp0_5.up hJ7
  obtain ⟨a9, c10, rfl, rfl⟩ := q8
  refine mv rfl rfl ?_
  refine ex rfl rfl rfl ?_
  refine ex rfl rfl rfl ?_
  refine asg rfl rfl ?_
  refine asg rfl rfl ?_
  refine WL.del 1 ?_
  refine WL.next ?_
  refine WC.seq ?_
  refine WC.seq ?_
  refine WC.region ?_
  refine mv rfl rfl ?_
  refine ne rfl rfl rfl ?_
  refine WL.next ?_
  refine WC.ite rfl h (fun k12 h => ?_) (fun k12 h => ?_)
  · skip
    refine WC.seq ?_
    refine WC.region ?_
    refine mv rfl rfl ?_
    refine asg rfl rfl ?_
    refine asg rfl rfl ?_
    refine WL.del 0 ?_
    refine WL.next ?_
    refine WC.ret ?_
    refine WX.then_ret ?_
    refine WX.own_nil UInt8 5 ?_
    cases h
    exact ret2 Try.results30 rfl rfl hI ⟨_, _, rfl, rfl⟩
  refine WC.skip ?_
  refine WX.then_ ?_
  refine WC.seq ?_
  refine WC.region ?_
  refine mv rfl rfl ?_
  refine WL.freeze (fun J14 hJ15 h16 => ?_)
  have hI := hI.trans hJ15
  obtain ⟨x17, e18, h⟩ := bnd h
  refine call cl16 rfl rfl (W16 e18 h16) (fun _ J19 _ hJ20 q21 => ?_)
  have hI := hI.trans hJ20
  replace h16 := h16.up hJ20
  obtain ⟨a22, c23, rfl, rfl⟩ := q21
  refine asg rfl rfl ?_
  refine asg rfl rfl ?_
  refine WL.next ?_
  refine WC.ret ?_
  cases h
  exact ret2 Try.results30 rfl rfl hI ⟨_, _, rfl, rfl⟩
theorem W33 {I : Mem} {G : List Asn} {r : Bool} (h : haulierlaw06_wakes = some r) :
    CallsS Try.prog 33 #[] I (G) (fun v J G' => v = .bool r ∧ G = G') := by
  refine CallsS.enter Try.func33 rfl Try.ntmps33 rfl (fun w0 => ?_)
  have hI := Mem.le.refl I
  unfold haulierlaw06_wakes at h
  refine WC.seq ?_
  refine WC.region ?_
  refine asg rfl rfl ?_
  refine WL.next ?_
  refine WC.seq ?_
  refine WC.region ?_
  refine bu bt41 rfl rfl rfl ?_
  obtain ⟨⟨x1, x2⟩, e3, h⟩ := bnd h
  refine call cl31 rfl rfl (W31 e3 (IV.nil _ : IV _ _ ([] : List UInt8))) (fun _ J4 _ hJ5 q6 => ?_)
  have hI := hI.trans hJ5
  obtain ⟨a7, c8, rfl, rfl⟩ := q6
  refine mv rfl rfl ?_
  refine ex rfl rfl rfl ?_
  refine ex rfl rfl rfl ?_
  refine asg rfl rfl ?_
  refine asg rfl rfl ?_
  refine WL.next ?_
  refine WC.seq ?_
  refine WC.region ?_
  refine bu bt41 rfl rfl rfl ?_
  obtain ⟨⟨x10, x11⟩, e12, h⟩ := bnd h
  refine call cl30 rfl rfl (W30 e12 (IV.nil _ : IV _ _ ([] : List UInt8))) (fun _ J13 _ hJ14 q15 => ?_)
  have hI := hI.trans hJ14
  obtain ⟨a16, c17, rfl, rfl⟩ := q15
  refine mv rfl rfl ?_
  refine ex rfl rfl rfl ?_
  refine ex rfl rfl rfl ?_
  refine asg rfl rfl ?_
  refine asg rfl rfl ?_
  refine WL.next ?_
  refine WC.seq ?_
  refine WC.region ?_
  refine mv rfl rfl ?_
  refine eq rfl rfl rfl ?_
  refine mv rfl rfl ?_
  rcases spl h with ⟨k19, h⟩ | ⟨k19, h⟩
  · skip
    refine WL.rb 17 rfl (bT k19) ?_
    refine WL.on rfl rfl ?_
    refine mv rfl rfl ?_
    refine WL.on rfl rfl ?_
    refine eq rfl rfl rfl ?_
    refine pkT rfl rfl rfl ?_
    refine mv rfl rfl ?_
    rcases spl h with ⟨k20, h⟩ | ⟨k20, h⟩
    · skip
      refine WL.rb 21 rfl (bT k20) ?_
      refine WL.on rfl rfl ?_
      refine mv rfl rfl ?_
      refine WL.on rfl rfl ?_
      refine bs (os := [.const (.int .u8 1), .const (.int .u8 1), .const (.int .u8 2)]) (xs := ([(1 : UInt8), (1 : UInt8), (2 : UInt8)] : List UInt8)) et22 rfl rfl ⟨(Rv.of_u8 _ (1 : UInt8)), (Rv.of_u8 _ (1 : UInt8)), (Rv.of_u8 _ (2 : UInt8)), trivial⟩ rfl rfl rfl rfl (fun a21 c22 => ?_)
      refine WL.on rfl rfl ?_
      refine WL.front 2 ?_
      refine WL.freeze (fun J24 hJ25 h26 => ?_)
      have hI := hI.trans hJ25
      refine WL.freeze (fun J27 hJ28 h29 => ?_)
      have hI := hI.trans hJ28
      replace h26 := h26.up hJ28
      obtain ⟨x30, e31, h⟩ := bnd h
      refine call cl17 rfl rfl (W17 e31 h26 h29) (fun _ J32 _ hJ33 q34 => ?_)
      have hI := hI.trans hJ33
      replace h26 := h26.up hJ33; replace h29 := h29.up hJ33
      obtain ⟨rfl, rfl⟩ := q34
      refine pkT rfl rfl rfl ?_
      refine mv rfl rfl ?_
      rcases spl h with ⟨k35, h⟩ | ⟨k35, h⟩
      · skip
        refine WL.rb 26 rfl (bt1 k35) ?_
        refine WL.on rfl rfl ?_
        refine mv rfl rfl ?_
        refine WL.on rfl rfl ?_
        refine ln et22 rfl (OV.rd 0 rfl) rfl ?_
        refine WL.on rfl rfl ?_
        refine eq rfl rfl rfl ?_
        refine pkT rfl rfl rfl ?_
        refine asg rfl rfl ?_
        refine WL.del 0 ?_
        refine WL.next ?_
        refine WC.ret ?_
        cases h
        exact ret1 Try.results33 rfl hI ⟨rfl, rfl⟩
      refine WL.rb 26 rfl (bf1 k35) ?_
      refine WL.no rfl rfl rfl rfl ?_
      refine WL.no rfl rfl rfl rfl ?_
      refine WL.no rfl rfl rfl rfl ?_
      refine pkF rfl rfl rfl ?_
      refine asg rfl rfl ?_
      refine WL.del 0 ?_
      refine WL.next ?_
      refine WC.ret ?_
      cases h
      exact ret1 Try.results33 rfl hI ⟨rfl, rfl⟩
    refine WL.rb 21 rfl (bF k20) ?_
    refine WL.no rfl rfl rfl rfl ?_
    refine WL.no rfl rfl rfl rfl ?_
    refine WL.no rfl rfl rfl rfl ?_
    refine pkF rfl rfl rfl ?_
    refine mv rfl rfl ?_
    refine WL.no rfl rfl rfl rfl ?_
    refine WL.no rfl rfl rfl rfl ?_
    refine WL.no rfl rfl rfl rfl ?_
    refine pkF rfl rfl rfl ?_
    refine asg rfl rfl ?_
    refine WL.del 0 ?_
    refine WL.del 0 ?_
    refine WL.next ?_
    refine WC.ret ?_
    cases h
    exact ret1 Try.results33 rfl hI ⟨rfl, rfl⟩
  refine WL.rb 17 rfl (bF k19) ?_
  refine WL.no rfl rfl rfl rfl ?_
  refine WL.no rfl rfl rfl rfl ?_
  refine pkF rfl rfl rfl ?_
  refine mv rfl rfl ?_
  refine WL.no rfl rfl rfl rfl ?_
  refine WL.no rfl rfl rfl rfl ?_
  refine WL.no rfl rfl rfl rfl ?_
  refine pkF rfl rfl rfl ?_
  refine mv rfl rfl ?_
  refine WL.no rfl rfl rfl rfl ?_
  refine WL.no rfl rfl rfl rfl ?_
  refine WL.no rfl rfl rfl rfl ?_
  refine pkF rfl rfl rfl ?_
  refine asg rfl rfl ?_
  refine WL.del 0 ?_
  refine WL.del 0 ?_
  refine WL.next ?_
  refine WC.ret ?_
  cases h
  exact ret1 Try.results33 rfl hI ⟨rfl, rfl⟩
theorem W6 {I : Mem} {G : List Asn} {p0 : Int} {r : Bool} (h : haulierlaw06_PacketErrors p0 = some r) :
    CallsS Try.prog 6 #[.int .i64 p0] I (G) (fun v J G' => v = .bool r ∧ G = G') := by
  refine CallsS.enter Try.func6 rfl Try.ntmps6 rfl (fun w0 => ?_)
  have hI := Mem.le.refl I
  unfold haulierlaw06_PacketErrors at h
  refine WC.seq ?_
  refine WC.region ?_
  refine asg rfl rfl ?_
  refine WL.next ?_
  refine WC.seq ?_
  refine WC.region ?_
  refine mv rfl rfl ?_
  obtain ⟨x1, e2, h⟩ := bnd h
  refine call cl19 rfl rfl (W19 e2) (fun _ J3 _ hJ4 q5 => ?_)
  have hI := hI.trans hJ4
  obtain ⟨rfl, rfl⟩ := q5
  refine ad rfl rfl rfl ?_
  refine asg rfl rfl ?_
  refine WL.next ?_
  refine WC.seq ?_
  refine WC.seq ?_
  refine WC.region ?_
  refine bu bt41 rfl rfl rfl ?_
  refine bu bt41 rfl rfl rfl ?_
  refine mv rfl rfl ?_
  refine ng rfl rfl ?_
  refine bu bt41 rfl rfl rfl ?_
  refine bu bt41 rfl rfl rfl ?_
  refine mv rfl rfl ?_
  refine ng rfl rfl ?_
  refine bu bt41 rfl rfl rfl ?_
  refine mv rfl rfl ?_
  refine ad rfl rfl rfl ?_
  refine bu bt41 rfl rfl rfl ?_
  refine mv rfl rfl ?_
  refine ng rfl rfl ?_
  refine bu bt41 rfl rfl rfl ?_
  refine mv rfl rfl ?_
  refine bu bt41 rfl rfl rfl ?_
  refine mv rfl rfl ?_
  refine bu bt41 rfl rfl rfl ?_
  refine bs (os := [.const (.int .u8 1)]) (xs := ([(1 : UInt8)] : List UInt8)) et22 rfl rfl ⟨(Rv.of_u8 _ (1 : UInt8)), trivial⟩ rfl rfl rfl rfl (fun a6 c7 => ?_)
  refine bu bt41 rfl rfl rfl ?_
  refine bu bt41 rfl rfl rfl ?_
  refine mv rfl rfl ?_
  refine bu bt41 rfl rfl rfl ?_
  refine mv rfl rfl ?_
  refine bu bt41 rfl rfl rfl ?_
  refine mv rfl rfl ?_
  refine ng rfl rfl ?_
  refine bu bt41 rfl rfl rfl ?_
  refine mv rfl rfl ?_
  refine ad rfl rfl rfl ?_
  refine bu bt41 rfl rfl rfl ?_
  refine mv rfl rfl ?_
  refine bu bt41 rfl rfl rfl ?_
  refine mv rfl rfl ?_
  refine bu bt41 rfl rfl rfl ?_
  refine mv rfl rfl ?_
  refine ng rfl rfl ?_
  refine bu bt41 rfl rfl rfl ?_
  refine mv rfl rfl ?_
  refine ad rfl rfl rfl ?_
  refine bu bt41 rfl rfl rfl ?_
  refine bs (os := [.const (.int .u8 1)]) (xs := ([(1 : UInt8)] : List UInt8)) et22 rfl rfl ⟨(Rv.of_u8 _ (1 : UInt8)), trivial⟩ rfl rfl rfl rfl (fun a9 c10 => ?_)
  refine bu bt41 rfl rfl rfl ?_
  obtain ⟨k12, h⟩ := chk h
  refine ms (z := (0 : UInt8)) et22 rfl rfl rfl rfl k12 rfl (fun a13 c14 => ?_)
  refine bu bt41 rfl rfl rfl ?_
  refine mv rfl rfl ?_
  refine bu bt41 rfl rfl rfl ?_
  refine mv rfl rfl ?_
  refine bu bt41 rfl rfl rfl ?_
  refine mv rfl rfl ?_
  refine ng rfl rfl ?_
  refine bu bt41 rfl rfl rfl ?_
  refine mv rfl rfl ?_
  refine ad rfl rfl rfl ?_
  refine bu bt41 rfl rfl rfl ?_
  refine mv rfl rfl ?_
  refine ng rfl rfl ?_
  refine bu bt41 rfl rfl rfl ?_
  refine mv rfl rfl ?_
  refine ad rfl rfl rfl ?_
  refine bu bt41 rfl rfl rfl ?_
  refine bu bt41 rfl rfl rfl ?_
  refine WL.front 2 ?_
  refine WL.freeze (fun J19 hJ20 h21 => ?_)
  have hI := hI.trans hJ20
  refine WL.front 1 ?_
  refine WL.freeze (fun J22 hJ23 h24 => ?_)
  have hI := hI.trans hJ23
  replace h21 := h21.up hJ23
  refine WL.freeze (fun J25 hJ26 h27 => ?_)
  have hI := hI.trans hJ26
  replace h21 := h21.up hJ26; replace h24 := h24.up hJ26
  obtain ⟨x28, e29, h⟩ := bnd h
  refine bs (os := [.tmp 12, .tmp 13, .tmp 16, .tmp 17, .tmp 20, .tmp 23, .tmp 26, .tmp 28, .tmp 30, .tmp 32, .tmp 33, .tmp 35, .tmp 37, .tmp 40, .tmp 43, .tmp 45, .tmp 47, .tmp 50, .tmp 53, .tmp 55, .tmp 57, .tmp 59, .tmp 61, .tmp 64, .tmp 67, .tmp 70, .tmp 73, .tmp 74]) (xs := ([(⟨0, 0, 0, 0, 0, ([] : List UInt8), false, 0, 0⟩ : api_Packet), (⟨5, 0, 0, 0, 0, ([] : List UInt8), false, 0, 0⟩ : api_Packet), (⟨w64 (0 - (w64 (1 + x1))), 0, 0, 0, 0, ([] : List UInt8), false, 0, 0⟩ : api_Packet), (⟨1, 3, 0, 0, 0, ([] : List UInt8), false, 0, 0⟩ : api_Packet), (⟨1, w64 (0 - (w64 (1 + x1))), 0, 0, 0, ([] : List UInt8), false, 0, 0⟩ : api_Packet), (⟨1, 0, w64 (65535 + (w64 (1 + x1))), 0, 0, ([] : List UInt8), false, 0, 0⟩ : api_Packet), (⟨1, 0, w64 (0 - (w64 (1 + x1))), 0, 0, ([] : List UInt8), false, 0, 0⟩ : api_Packet), (⟨1, 0, 0, w64 (1 + x1), 0, ([] : List UInt8), false, 0, 0⟩ : api_Packet), (⟨1, 0, 0, 0, w64 (1 + x1), ([] : List UInt8), false, 0, 0⟩ : api_Packet), (⟨1, 0, 0, 0, 0, ([(1 : UInt8)] : List UInt8), false, 0, 0⟩ : api_Packet), (⟨1, 0, 0, 0, 0, ([] : List UInt8), true, 0, 0⟩ : api_Packet), (⟨1, 0, 0, 0, 0, ([] : List UInt8), false, w64 (1 + x1), 0⟩ : api_Packet), (⟨1, 0, 0, 0, 0, ([] : List UInt8), false, 0, w64 (1 + x1)⟩ : api_Packet), (⟨2, 0, 0, w64 (0 - (w64 (1 + x1))), 0, ([] : List UInt8), false, 0, 0⟩ : api_Packet), (⟨2, 0, 0, w64 (65535 + (w64 (1 + x1))), 0, ([] : List UInt8), false, 0, 0⟩ : api_Packet), (⟨2, 0, 0, 0, 0, ([] : List UInt8), false, w64 (1 + x1), 0⟩ : api_Packet), (⟨3, 0, 0, w64 (1 + x1), 0, ([] : List UInt8), false, 0, 0⟩ : api_Packet), (⟨3, 0, 0, 0, w64 (0 - (w64 (1 + x1))), ([] : List UInt8), false, 0, 0⟩ : api_Packet), (⟨3, 0, 0, 0, w64 (4096 + (w64 (1 + x1))), ([] : List UInt8), false, 0, 0⟩ : api_Packet), (⟨3, 0, 0, 0, 4096, ([(1 : UInt8)] : List UInt8), false, 0, 0⟩ : api_Packet), (⟨3, 0, 0, 0, 0, (List.replicate (65 : Int).toNat (0 : UInt8)), false, 0, 0⟩ : api_Packet), (⟨3, 0, 0, 0, 0, ([] : List UInt8), false, 0, w64 (1 + x1)⟩ : api_Packet), (⟨4, 0, 0, 0, w64 (1 + x1), ([] : List UInt8), false, 0, 0⟩ : api_Packet), (⟨4, 0, 0, 0, 0, ([] : List UInt8), false, w64 (0 - (w64 (1 + x1))), 0⟩ : api_Packet), (⟨4, 0, 0, 0, 0, ([] : List UInt8), false, w64 (4097 + (w64 (1 + x1))), 0⟩ : api_Packet), (⟨4, 0, 0, 0, 0, ([] : List UInt8), false, 0, w64 (0 - (w64 (1 + x1)))⟩ : api_Packet), (⟨4, 0, 0, 0, 0, ([] : List UInt8), false, 0, w64 (4496 + (w64 (1 + x1)))⟩ : api_Packet), (⟨4, 0, 0, 0, 0, ([] : List UInt8), true, 0, 0⟩ : api_Packet)] : List api_Packet)) et42 rfl rfl ⟨(Rv.mk_api_Packet (⟨0, 0, 0, 0, 0, ([] : List UInt8), false, 0, 0⟩ : api_Packet) (IV.nil _ : IV _ _ ([] : List UInt8))), (Rv.mk_api_Packet (⟨5, 0, 0, 0, 0, ([] : List UInt8), false, 0, 0⟩ : api_Packet) (IV.nil _ : IV _ _ ([] : List UInt8))), (Rv.mk_api_Packet (⟨w64 (0 - (w64 (1 + x1))), 0, 0, 0, 0, ([] : List UInt8), false, 0, 0⟩ : api_Packet) (IV.nil _ : IV _ _ ([] : List UInt8))), (Rv.mk_api_Packet (⟨1, 3, 0, 0, 0, ([] : List UInt8), false, 0, 0⟩ : api_Packet) (IV.nil _ : IV _ _ ([] : List UInt8))), (Rv.mk_api_Packet (⟨1, w64 (0 - (w64 (1 + x1))), 0, 0, 0, ([] : List UInt8), false, 0, 0⟩ : api_Packet) (IV.nil _ : IV _ _ ([] : List UInt8))), (Rv.mk_api_Packet (⟨1, 0, w64 (65535 + (w64 (1 + x1))), 0, 0, ([] : List UInt8), false, 0, 0⟩ : api_Packet) (IV.nil _ : IV _ _ ([] : List UInt8))), (Rv.mk_api_Packet (⟨1, 0, w64 (0 - (w64 (1 + x1))), 0, 0, ([] : List UInt8), false, 0, 0⟩ : api_Packet) (IV.nil _ : IV _ _ ([] : List UInt8))), (Rv.mk_api_Packet (⟨1, 0, 0, w64 (1 + x1), 0, ([] : List UInt8), false, 0, 0⟩ : api_Packet) (IV.nil _ : IV _ _ ([] : List UInt8))), (Rv.mk_api_Packet (⟨1, 0, 0, 0, w64 (1 + x1), ([] : List UInt8), false, 0, 0⟩ : api_Packet) (IV.nil _ : IV _ _ ([] : List UInt8))), (Rv.mk_api_Packet (⟨1, 0, 0, 0, 0, ([(1 : UInt8)] : List UInt8), false, 0, 0⟩ : api_Packet) h21), (Rv.mk_api_Packet (⟨1, 0, 0, 0, 0, ([] : List UInt8), true, 0, 0⟩ : api_Packet) (IV.nil _ : IV _ _ ([] : List UInt8))), (Rv.mk_api_Packet (⟨1, 0, 0, 0, 0, ([] : List UInt8), false, w64 (1 + x1), 0⟩ : api_Packet) (IV.nil _ : IV _ _ ([] : List UInt8))), (Rv.mk_api_Packet (⟨1, 0, 0, 0, 0, ([] : List UInt8), false, 0, w64 (1 + x1)⟩ : api_Packet) (IV.nil _ : IV _ _ ([] : List UInt8))), (Rv.mk_api_Packet (⟨2, 0, 0, w64 (0 - (w64 (1 + x1))), 0, ([] : List UInt8), false, 0, 0⟩ : api_Packet) (IV.nil _ : IV _ _ ([] : List UInt8))), (Rv.mk_api_Packet (⟨2, 0, 0, w64 (65535 + (w64 (1 + x1))), 0, ([] : List UInt8), false, 0, 0⟩ : api_Packet) (IV.nil _ : IV _ _ ([] : List UInt8))), (Rv.mk_api_Packet (⟨2, 0, 0, 0, 0, ([] : List UInt8), false, w64 (1 + x1), 0⟩ : api_Packet) (IV.nil _ : IV _ _ ([] : List UInt8))), (Rv.mk_api_Packet (⟨3, 0, 0, w64 (1 + x1), 0, ([] : List UInt8), false, 0, 0⟩ : api_Packet) (IV.nil _ : IV _ _ ([] : List UInt8))), (Rv.mk_api_Packet (⟨3, 0, 0, 0, w64 (0 - (w64 (1 + x1))), ([] : List UInt8), false, 0, 0⟩ : api_Packet) (IV.nil _ : IV _ _ ([] : List UInt8))), (Rv.mk_api_Packet (⟨3, 0, 0, 0, w64 (4096 + (w64 (1 + x1))), ([] : List UInt8), false, 0, 0⟩ : api_Packet) (IV.nil _ : IV _ _ ([] : List UInt8))), (Rv.mk_api_Packet (⟨3, 0, 0, 0, 4096, ([(1 : UInt8)] : List UInt8), false, 0, 0⟩ : api_Packet) h24), (Rv.mk_api_Packet (⟨3, 0, 0, 0, 0, (List.replicate (65 : Int).toNat (0 : UInt8)), false, 0, 0⟩ : api_Packet) h27), (Rv.mk_api_Packet (⟨3, 0, 0, 0, 0, ([] : List UInt8), false, 0, w64 (1 + x1)⟩ : api_Packet) (IV.nil _ : IV _ _ ([] : List UInt8))), (Rv.mk_api_Packet (⟨4, 0, 0, 0, w64 (1 + x1), ([] : List UInt8), false, 0, 0⟩ : api_Packet) (IV.nil _ : IV _ _ ([] : List UInt8))), (Rv.mk_api_Packet (⟨4, 0, 0, 0, 0, ([] : List UInt8), false, w64 (0 - (w64 (1 + x1))), 0⟩ : api_Packet) (IV.nil _ : IV _ _ ([] : List UInt8))), (Rv.mk_api_Packet (⟨4, 0, 0, 0, 0, ([] : List UInt8), false, w64 (4097 + (w64 (1 + x1))), 0⟩ : api_Packet) (IV.nil _ : IV _ _ ([] : List UInt8))), (Rv.mk_api_Packet (⟨4, 0, 0, 0, 0, ([] : List UInt8), false, 0, w64 (0 - (w64 (1 + x1)))⟩ : api_Packet) (IV.nil _ : IV _ _ ([] : List UInt8))), (Rv.mk_api_Packet (⟨4, 0, 0, 0, 0, ([] : List UInt8), false, 0, w64 (4496 + (w64 (1 + x1)))⟩ : api_Packet) (IV.nil _ : IV _ _ ([] : List UInt8))), (Rv.mk_api_Packet (⟨4, 0, 0, 0, 0, ([] : List UInt8), true, 0, 0⟩ : api_Packet) (IV.nil _ : IV _ _ ([] : List UInt8))), trivial⟩ rfl rfl rfl rfl (fun a16 c17 => ?_)
  refine WL.ren (Option.some.inj e29) ?_
  refine ln et42 rfl (OV.rd 0 rfl) rfl ?_
  refine mv rfl rfl ?_
  refine WL.next ?_
  refine WC.block ?_
  refine WC.loop (σ := Int) (fun k x30 => haulierlaw06_PacketErrors_l0 x28 k x30) _ (fun x30 => [(75, (.slice a16 x28.length c17)), (76, (.int .i64 (x28.length : Int))), (77, (.int .i64 x30))]) (fun x30 => OV 41 (.slice a16 x28.length c17) x28 :: G) (fun x30 J => True) (fun x30 => rfl) bigN 0 h trivial ⟨rfl, rfl, rfl, trivial⟩ rfl ?_
  rintro k0 ih0 x30 J73 hJ74 - h
  change haulierlaw06_PacketErrors_l0 x28 (k0 + 1) x30 = _ at h
  rw [haulierlaw06_PacketErrors_l0] at h
  have hI := hI.trans hJ74
  have ll0 := hJ74
  refine WC.seq ?_
  refine WC.region ?_
  refine lt rfl rfl rfl ?_
  refine WL.next ?_
  refine WC.seq ?_
  refine WC.ite rfl h (fun k75 h => ?_) (fun k75 h => ?_)
  · skip
    refine WC.skip ?_
    refine WX.then_ ?_
    refine WC.seq ?_
    refine WC.block ?_
    refine WC.seq ?_
    refine WC.region ?_
    obtain ⟨k76, h⟩ := chk h
    refine ixo 0 et42 rfl rfl rfl k76 rfl (fun uv77 h78 => ?_)
    obtain ⟨z81, e82, h⟩ := bnd h
    refine ldo (α := api_Packet) 0 ya41 rfl h78 rfl e82 rfl (fun uv79 h80 => ?_)
    obtain ⟨a83, c84, rfl, h85⟩ := Rv.of_api_Packet h80
    refine al Try.zeroValue41 rfl (fun g86 => ?_)
    refine sta (C' := #[(.int .i64 z81.Kind), (.int .i64 z81.Path), (.int .i64 z81.Number), (.int .i64 z81.Of), (.int .i64 z81.From), (.slice a83 z81.Data.length c84), (.bool z81.Fin), (.int .i64 z81.Seen), (.int .i64 z81.Limit)]) sz41 rfl rfl rfl rfl rfl rfl ?_
    refine WL.next ?_
    refine WC.seq ?_
    refine WC.region ?_
    refine lda 0 ya41 rfl rfl rfl rfl rfl ?_
    obtain ⟨⟨x88, x89⟩, e90, h⟩ := bnd h
    refine call cl30 rfl rfl (W30 e90 h85) (fun _ J91 _ hJ92 q93 => ?_)
    have hI := hI.trans hJ92
    have ll0 := ll0.trans hJ92
    replace h85 := h85.up hJ92
    obtain ⟨a94, c95, rfl, rfl⟩ := q93
    refine mv rfl rfl ?_
    refine ex rfl rfl rfl ?_
    refine ex rfl rfl rfl ?_
    refine asg rfl rfl ?_
    refine asg rfl rfl ?_
    refine WL.next ?_
    refine WC.seq ?_
    refine WC.region ?_
    refine lda 1 ya41 rfl rfl rfl rfl rfl ?_
    obtain ⟨⟨x97, x98⟩, e99, h⟩ := bnd h
    refine call cl31 rfl rfl (W31 e99 h85) (fun _ J100 _ hJ101 q102 => ?_)
    have hI := hI.trans hJ101
    have ll0 := ll0.trans hJ101
    replace h85 := h85.up hJ101
    obtain ⟨a103, c104, rfl, rfl⟩ := q102
    refine mv rfl rfl ?_
    refine ex rfl rfl rfl ?_
    refine ex rfl rfl rfl ?_
    refine asg rfl rfl ?_
    refine asg rfl rfl ?_
    refine WL.next ?_
    refine WC.seq ?_
    refine WC.region ?_
    refine lda 2 ya41 rfl rfl rfl rfl rfl ?_
    obtain ⟨x106, e107, h⟩ := bnd h
    refine call cl32 rfl rfl (W32 e107 h85) (fun _ J108 _ hJ109 q110 => ?_)
    have hI := hI.trans hJ109
    have ll0 := ll0.trans hJ109
    replace h85 := h85.up hJ109
    obtain ⟨rfl, rfl⟩ := q110
    refine ne rfl rfl rfl ?_
    refine mv rfl rfl ?_
    rcases spl h with ⟨k111, h⟩ | ⟨k111, h⟩
    · skip
      refine WL.rb 94 rfl (bT k111) ?_
      refine WL.no rfl rfl rfl rfl ?_
      refine WL.no rfl rfl rfl rfl ?_
      refine pkT rfl rfl rfl ?_
      refine mv rfl rfl ?_
      refine WL.no rfl rfl rfl rfl ?_
      refine WL.no rfl rfl rfl rfl ?_
      refine pkT rfl rfl rfl ?_
      refine mv rfl rfl ?_
      refine WL.no rfl rfl rfl rfl ?_
      refine WL.no rfl rfl rfl rfl ?_
      refine WL.no rfl rfl rfl rfl ?_
      refine pkT rfl rfl rfl ?_
      refine mv rfl rfl ?_
      refine WL.no rfl rfl rfl rfl ?_
      refine WL.no rfl rfl rfl rfl ?_
      refine WL.no rfl rfl rfl rfl ?_
      refine pkT rfl rfl rfl ?_
      refine WL.del 0 ?_
      refine WL.del 0 ?_
      refine WL.del 0 ?_
      refine WL.next ?_
      refine WC.cond rfl (fun _ => ?_) (fun k => by cases k)
      refine WC.seq ?_
      refine WC.region ?_
      refine asg rfl rfl ?_
      refine WL.del 0 ?_
      refine WL.next ?_
      refine WC.ret ?_
      refine WX.block_ret ?_
      refine WX.then_ret ?_
      refine WX.then_ret ?_
      refine WX.block_ret ?_
      refine WX.then_ret ?_
      cases h
      exact ret1 Try.results6 rfl hI ⟨rfl, rfl⟩
    refine WL.rb 94 rfl (bF k111) ?_
    refine WL.on rfl rfl ?_
    refine mv rfl rfl ?_
    refine WL.on rfl rfl ?_
    refine ne rfl rfl rfl ?_
    refine pkF rfl rfl rfl ?_
    refine mv rfl rfl ?_
    rcases spl h with ⟨k112, h⟩ | ⟨k112, h⟩
    · skip
      refine WL.rb 98 rfl (bT k112) ?_
      refine WL.no rfl rfl rfl rfl ?_
      refine WL.no rfl rfl rfl rfl ?_
      refine pkT rfl rfl rfl ?_
      refine mv rfl rfl ?_
      refine WL.no rfl rfl rfl rfl ?_
      refine WL.no rfl rfl rfl rfl ?_
      refine WL.no rfl rfl rfl rfl ?_
      refine pkT rfl rfl rfl ?_
      refine mv rfl rfl ?_
      refine WL.no rfl rfl rfl rfl ?_
      refine WL.no rfl rfl rfl rfl ?_
      refine WL.no rfl rfl rfl rfl ?_
      refine pkT rfl rfl rfl ?_
      refine WL.del 0 ?_
      refine WL.del 0 ?_
      refine WL.del 0 ?_
      refine WL.next ?_
      refine WC.cond rfl (fun _ => ?_) (fun k => by cases k)
      refine WC.seq ?_
      refine WC.region ?_
      refine asg rfl rfl ?_
      refine WL.del 0 ?_
      refine WL.next ?_
      refine WC.ret ?_
      refine WX.block_ret ?_
      refine WX.then_ret ?_
      refine WX.then_ret ?_
      refine WX.block_ret ?_
      refine WX.then_ret ?_
      cases h
      exact ret1 Try.results6 rfl hI ⟨rfl, rfl⟩
    refine WL.rb 98 rfl (bF k112) ?_
    refine WL.on rfl rfl ?_
    refine mv rfl rfl ?_
    refine WL.on rfl rfl ?_
    refine ne rfl rfl rfl ?_
    refine pkF rfl rfl rfl ?_
    refine mv rfl rfl ?_
    rcases spl h with ⟨k113, h⟩ | ⟨k113, h⟩
    · skip
      refine WL.rb 102 rfl (bT k113) ?_
      refine WL.no rfl rfl rfl rfl ?_
      refine WL.no rfl rfl rfl rfl ?_
      refine WL.no rfl rfl rfl rfl ?_
      refine pkT rfl rfl rfl ?_
      refine mv rfl rfl ?_
      refine WL.no rfl rfl rfl rfl ?_
      refine WL.no rfl rfl rfl rfl ?_
      refine WL.no rfl rfl rfl rfl ?_
      refine pkT rfl rfl rfl ?_
      refine WL.del 0 ?_
      refine WL.del 0 ?_
      refine WL.del 0 ?_
      refine WL.next ?_
      refine WC.cond rfl (fun _ => ?_) (fun k => by cases k)
      refine WC.seq ?_
      refine WC.region ?_
      refine asg rfl rfl ?_
      refine WL.del 0 ?_
      refine WL.next ?_
      refine WC.ret ?_
      refine WX.block_ret ?_
      refine WX.then_ret ?_
      refine WX.then_ret ?_
      refine WX.block_ret ?_
      refine WX.then_ret ?_
      cases h
      exact ret1 Try.results6 rfl hI ⟨rfl, rfl⟩
    refine WL.rb 102 rfl (bF k113) ?_
    refine WL.on rfl rfl ?_
    refine mv rfl rfl ?_
    refine WL.on rfl rfl ?_
    refine ln et22 rfl (OV.rd 1 rfl) rfl ?_
    refine WL.on rfl rfl ?_
    refine ne rfl rfl rfl ?_
    refine pkF rfl rfl rfl ?_
    refine mv rfl rfl ?_
    rcases spl h with ⟨k114, h⟩ | ⟨k114, h⟩
    · skip
      refine WL.rb 107 rfl (bT k114) ?_
      refine WL.no rfl rfl rfl rfl ?_
      refine WL.no rfl rfl rfl rfl ?_
      refine WL.no rfl rfl rfl rfl ?_
      refine pkT rfl rfl rfl ?_
      refine WL.del 0 ?_
      refine WL.del 1 ?_
      refine WL.next ?_
      refine WC.cond rfl (fun _ => ?_) (fun k => by cases k)
      refine WC.seq ?_
      refine WC.region ?_
      refine asg rfl rfl ?_
      refine WL.del 0 ?_
      refine WL.del 0 ?_
      refine WL.next ?_
      refine WC.ret ?_
      refine WX.block_ret ?_
      refine WX.then_ret ?_
      refine WX.then_ret ?_
      refine WX.block_ret ?_
      refine WX.then_ret ?_
      cases h
      exact ret1 Try.results6 rfl hI ⟨rfl, rfl⟩
    refine WL.rb 107 rfl (bF k114) ?_
    refine WL.on rfl rfl ?_
    refine mv rfl rfl ?_
    refine WL.on rfl rfl ?_
    refine ln et22 rfl (OV.rd 0 rfl) rfl ?_
    refine WL.on rfl rfl ?_
    refine ne rfl rfl rfl ?_
    refine pkF rfl rfl rfl ?_
    refine WL.del 2 ?_
    refine WL.next ?_
    refine WC.ite rfl h (fun k115 h => ?_) (fun k115 h => ?_)
    · skip
      refine WC.seq ?_
      refine WC.region ?_
      refine asg rfl rfl ?_
      refine WL.del 0 ?_
      refine WL.del 0 ?_
      refine WL.del 0 ?_
      refine WL.next ?_
      refine WC.ret ?_
      refine WX.block_ret ?_
      refine WX.then_ret ?_
      refine WX.then_ret ?_
      refine WX.block_ret ?_
      refine WX.then_ret ?_
      cases h
      exact ret1 Try.results6 rfl hI ⟨rfl, rfl⟩
    refine WC.skip ?_
    refine WX.block_normal ?_
    refine WX.then_ ?_
    refine WC.region ?_
    refine ad rfl rfl rfl ?_
    refine mv rfl rfl ?_
    refine WL.nil ?_
    refine WX.front 2 ?_
    refine WX.del 1 ?_
    refine WX.del 1 ?_
    refine WX.round ?_
    exact (ih0 (w64 (x30 + 1)) _ ll0 trivial h).sub ⟨rfl, rfl, rfl, trivial⟩
  refine WC.exit ?_
  refine WX.then_exit ?_
  refine WX.then_exit ?_
  refine WX.block_here ?_
  refine WX.then_ ?_
  refine WC.seq ?_
  refine WC.region ?_
  refine bu bt41 rfl rfl rfl ?_
  obtain ⟨x116, e117, h⟩ := bnd h
  refine call cl32 rfl rfl (W32 e117 (IV.nil _ : IV _ _ ([] : List UInt8))) (fun _ J118 _ hJ119 q120 => ?_)
  have hI := hI.trans hJ119
  have ll0 := ll0.trans hJ119
  obtain ⟨rfl, rfl⟩ := q120
  refine eq rfl rfl rfl ?_
  refine mv rfl rfl ?_
  rcases spl h with ⟨k121, h⟩ | ⟨k121, h⟩
  · skip
    refine WL.rb 116 rfl (bT k121) ?_
    refine WL.on rfl rfl ?_
    refine bu bt41 rfl rfl rfl ?_
    refine WL.on rfl rfl ?_
    obtain ⟨x122, e123, h⟩ := bnd h
    refine call cl32 rfl rfl (W32 e123 (IV.nil _ : IV _ _ ([] : List UInt8))) (fun _ J124 _ hJ125 q126 => ?_)
    have hI := hI.trans hJ125
    have ll0 := ll0.trans hJ125
    obtain ⟨rfl, rfl⟩ := q126
    refine WL.on rfl rfl ?_
    refine eq rfl rfl rfl ?_
    refine pkT rfl rfl rfl ?_
    refine mv rfl rfl ?_
    rcases spl h with ⟨k127, h⟩ | ⟨k127, h⟩
    · skip
      refine WL.rb 121 rfl (bT k127) ?_
      refine WL.on rfl rfl ?_
      obtain ⟨x128, e129, h⟩ := bnd h
      refine call cl33 rfl rfl (W33 e129) (fun _ J130 _ hJ131 q132 => ?_)
      have hI := hI.trans hJ131
      have ll0 := ll0.trans hJ131
      obtain ⟨rfl, rfl⟩ := q132
      refine pkT rfl rfl rfl ?_
      refine asg rfl rfl ?_
      refine WL.del 0 ?_
      refine WL.next ?_
      refine WC.ret ?_
      cases h
      exact ret1 Try.results6 rfl hI ⟨rfl, rfl⟩
    refine WL.rb 121 rfl (bF k127) ?_
    refine WL.no rfl rfl rfl rfl ?_
    refine pkF rfl rfl rfl ?_
    refine asg rfl rfl ?_
    refine WL.del 0 ?_
    refine WL.next ?_
    refine WC.ret ?_
    cases h
    exact ret1 Try.results6 rfl hI ⟨rfl, rfl⟩
  refine WL.rb 116 rfl (bF k121) ?_
  refine WL.no rfl rfl rfl rfl ?_
  refine WL.no rfl rfl rfl rfl ?_
  refine WL.no rfl rfl rfl rfl ?_
  refine pkF rfl rfl rfl ?_
  refine mv rfl rfl ?_
  refine WL.no rfl rfl rfl rfl ?_
  refine pkF rfl rfl rfl ?_
  refine asg rfl rfl ?_
  refine WL.del 0 ?_
  refine WL.next ?_
  refine WC.ret ?_
  cases h
  exact ret1 Try.results6 rfl hI ⟨rfl, rfl⟩
theorem W65 {I : Mem} {G : List Asn} {p0 : api_Packet} {r : api_Packet} (h : haulierplay_Cut p0 = some r) {u0_5 : Value} (hp0_5 : IV I u0_5 p0.Data) :
    CallsS Try.prog 65 #[.agg #[(.int .i64 p0.Kind), (.int .i64 p0.Path), (.int .i64 p0.Number), (.int .i64 p0.Of), (.int .i64 p0.From), u0_5, (.bool p0.Fin), (.int .i64 p0.Seen), (.int .i64 p0.Limit)]] I (G) (fun v J G' => ∃ ra0_5 rc0_5, v = .agg #[.int .i64 r.Kind, .int .i64 r.Path, .int .i64 r.Number, .int .i64 r.Of, .int .i64 r.From, .slice ra0_5 r.Data.length rc0_5, .bool r.Fin, .int .i64 r.Seen, .int .i64 r.Limit] ∧ IV J (.slice ra0_5 r.Data.length rc0_5) r.Data ∧ G = G') := by
  refine CallsS.enter Try.func65 rfl Try.ntmps65 rfl (fun w0 => ?_)
  have hI := Mem.le.refl I
  obtain ⟨a0_5, c0_5, rfl⟩ := hp0_5.hd
  unfold haulierplay_Cut at h
  refine WC.seq ?_
  refine WC.region ?_
  refine bx rfl rfl rfl (fun g1 => ?_)
  refine al Try.zeroValue41 rfl (fun g3 => ?_)
  refine WL.next ?_
  refine WC.seq ?_
  refine WC.region ?_
  refine fa fl41_5 rfl rfl ?_
  refine ld 1 na22 rfl rfl rfl rfl ?_
  obtain ⟨x5, e6, h⟩ := bnd h
  refine call cl15 rfl rfl (W15 e6 hp0_5) (fun _ J7 _ hJ8 q9 => ?_)
  have hI := hI.trans hJ8
  replace hp0_5 := hp0_5.up hJ8
  obtain ⟨a10, c11, rfl, rfl⟩ := q9
  refine fa fl41_5 rfl rfl ?_
  refine WL.front 2 ?_
  refine st (C' := #[(.int .i64 p0.Kind), (.int .i64 p0.Path), (.int .i64 p0.Number), (.int .i64 p0.Of), (.int .i64 p0.From), (.slice a10 x5.length c11), (.bool p0.Fin), (.int .i64 p0.Seen), (.int .i64 p0.Limit)]) sz22 rfl rfl rfl rfl rfl ?_
  refine WL.next ?_
  refine WC.seq ?_
  refine WC.region ?_
  refine lda 0 ya41 rfl rfl rfl rfl rfl ?_
  refine WL.front 2 ?_
  refine sta (C' := #[(.int .i64 p0.Kind), (.int .i64 p0.Path), (.int .i64 p0.Number), (.int .i64 p0.Of), (.int .i64 p0.From), (.slice a10 x5.length c11), (.bool p0.Fin), (.int .i64 p0.Seen), (.int .i64 p0.Limit)]) sz41 rfl rfl rfl rfl rfl rfl ?_
  refine WL.del 1 ?_
  refine WL.next ?_
  refine WC.ret ?_
  refine WX.front 1 ?_
  refine WX.freeze (fun J13 hJ14 h15 => ?_)
  have hI := hI.trans hJ14
  cases h
  exact retC1x Try.results65 (fun a w ha hw => RC.cellA ha hw 0 rfl ya41 rfl rfl) (fun w hw => hw |>.del 0) hI ⟨_, _, rfl, h15, rfl⟩
end Go.Proofs.Ytgobccnphhljcaa
