/- Printed by a program of this session: walks of Go functions. -/
import Derived.Test.YtgobccnphhljcaaKf
import Derived.Test.YtgobccnphhljcaaDf
import Derived.Test.YtgobccnphhljcaaKU0
namespace Go.Proofs.Ytgobccnphhljcaa
set_option linter.unusedVariables false
set_option maxRecDepth 10000
set_option maxHeartbeats 2000000
theorem W61 {I : Mem} {G : List Asn} {p0 : Bool} {r : UInt8} (h : packet_truth p0 = some r) :
    CallsS Try.prog 61 #[.bool p0] I (G) (fun v J G' => v = .int .u8 (r.toNat : Int) ∧ G = G') := by
  refine CallsS.enter Try.func61 rfl Try.ntmps61 rfl (fun w0 => ?_)
  have hI := Mem.le.refl I
  unfold packet_truth at h
  refine WC.seq ?_
  refine WC.region ?_
  refine asg rfl rfl ?_
  refine WL.next ?_
  refine WC.seq ?_
  refine WC.seq ?_
  refine WC.region ?_
  refine mv rfl rfl ?_
  refine WL.next ?_
  refine WC.iteb rfl h (fun k1 h => ?_) (fun k1 h => ?_)
  · skip
    refine WC.seq ?_
    refine WC.region ?_
    refine asg rfl rfl ?_
    refine WL.next ?_
    refine WC.ret ?_
    refine WX.then_ret ?_
    cases h
    exact ret1 Try.results61 rfl hI ⟨rfl, rfl⟩
  refine WC.skip ?_
  refine WX.then_ ?_
  refine WC.seq ?_
  refine WC.region ?_
  refine asg rfl rfl ?_
  refine WL.next ?_
  refine WC.ret ?_
  cases h
  exact ret1 Try.results61 rfl hI ⟨rfl, rfl⟩
theorem W31 {I : Mem} {G : List Asn} {p0 : api_Packet} {r : (List UInt8) × Int} (h : packet_Plain p0 = some r) {u0_5 : Value} (hp0_5 : IV I u0_5 p0.Data) :
    CallsS Try.prog 31 #[.agg #[(.int .i64 p0.Kind), (.int .i64 p0.Path), (.int .i64 p0.Number), (.int .i64 p0.Of), (.int .i64 p0.From), u0_5, (.bool p0.Fin), (.int .i64 p0.Seen), (.int .i64 p0.Limit)]] I (G) (fun v J G' => ∃ ra0 rc0, v = .tuple #[.slice ra0 r.1.length rc0, .int .i64 r.2] ∧ OV 5 (.slice ra0 r.1.length rc0) r.1 :: G = G') := by
  refine CallsS.enter Try.func31 rfl Try.ntmps31 rfl (fun w0 => ?_)
  have hI := Mem.le.refl I
  obtain ⟨a0_5, c0_5, rfl⟩ := hp0_5.hd
  unfold packet_Plain at h
  refine WC.seq ?_
  refine WC.region ?_
  refine bx rfl rfl rfl (fun g1 => ?_)
  refine asg rfl rfl ?_
  refine asg rfl rfl ?_
  refine WL.next ?_
  refine WC.seq ?_
  refine WC.seq ?_
  refine WC.region ?_
  refine lda 0 ya41 rfl rfl rfl rfl rfl ?_
  obtain ⟨x3, e4, h⟩ := bnd h
  refine call cl32 rfl rfl (W32 e4 hp0_5) (fun _ J5 _ hJ6 q7 => ?_)
  have hI := hI.trans hJ6
  replace hp0_5 := hp0_5.up hJ6
  obtain ⟨rfl, rfl⟩ := q7
  refine asg rfl rfl ?_
  refine WL.next ?_
  refine WC.seq ?_
  refine WC.region ?_
  refine mv rfl rfl ?_
  refine ne rfl rfl rfl ?_
  refine WL.next ?_
  refine WC.ite rfl h (fun k8 h => ?_) (fun k8 h => ?_)
  · skip
    refine WC.seq ?_
    refine WC.region ?_
    refine mv rfl rfl ?_
    refine asg rfl rfl ?_
    refine asg rfl rfl ?_
    refine WL.del 0 ?_
    refine WL.next ?_
    refine WC.ret ?_
    refine WX.then_ret ?_
    refine WX.own_nil UInt8 5 ?_
    cases h
    exact ret2 Try.results31 rfl rfl hI ⟨_, _, rfl, rfl⟩
  refine WC.skip ?_
  refine WX.then_ ?_
  refine WC.seq ?_
  refine WC.sub (r := [(1, (.pointer (some ⟨g1, 0, none⟩)))]) ?_ ⟨rfl, trivial⟩
  obtain ⟨x13, e14, h⟩ := bnd h
  obtain ⟨x21, e22, h⟩ := bnd h
  obtain ⟨x41, e42, h⟩ := bnd h
  obtain ⟨x46, e47, h⟩ := bnd h
  refine WC.drawn mo (nthL [[], [0], [0, 1], [0, 1, 2], [], [4], [4, 5], [], [7], [4, 5, 6, 7, 8], [0, 1, 2, 3, 4, 5, 6, 7, 8, 9], [0, 1, 2, 3, 4, 5, 6, 7, 8, 9, 10], [0, 1, 2, 3, 4, 5, 6, 7, 8, 9, 10, 11]]) (nthL [[], [0], [1], [2], [], [4], [5], [], [7], [8], [3, 6, 9], [10], [11]]) (nthK [.val (.pointer (some ⟨g1, 0, none⟩)), .val (.int .i64 p0.Kind), .val (.int .u8 ((u8of p0.Kind).toNat : Int)), .any, .val (.pointer (some ⟨g1, 1, none⟩)), .val (.int .i64 p0.Path), .any, .val (.pointer (some ⟨g1, 2, none⟩)), .val (.int .i64 p0.Number), .any, .any, .any, .any]) [⟨none, none, [1, 5, 8], [], fun _ => bl g1 #[(.int .i64 p0.Kind), (.int .i64 p0.Path), (.int .i64 p0.Number), (.int .i64 p0.Of), (.int .i64 p0.From), (.slice a0_5 p0.Data.length c0_5), (.bool p0.Fin), (.int .i64 p0.Seen), (.int .i64 p0.Limit)] 41⟩, ⟨(some 3), (some 10), [], [3], fun l => OV 5 (vget l 0) ([(u8of p0.Kind)] : List UInt8)⟩, ⟨(some 6), (some 10), [], [6], fun l => OV 5 (vget l 0) x13⟩, ⟨(some 9), (some 10), [], [9], fun l => OV 5 (vget l 0) x21⟩, ⟨(some 10), (some 11), [], [10], fun l => OV 22 (vget l 0) x41⟩, ⟨(some 11), (some 12), [], [11], fun l => OV 5 (vget l 0) x46⟩, ⟨(some 12), none, [], [12], fun l => OV 5 (vget l 0) x46⟩] (by kernel_rfl) (by kernel_rfl) (by kernel_rfl) (H := G) rfl ⟨?_, ?_, ?_, ?_, ?_, ?_, ?_, ?_, ?_, ?_, ?_, ?_, ?_, trivial⟩ ?_
  · intro Q ρ I1 H hI1 hk hpost
    have hc := Mem.le.refl I1
    refine fa fl41_0 rfl rfl ?_
    refine WL.nil ?_
    exact hpost _ _ hc rfl _ (fun _ hd => by obtain rfl := Option.some.inj hd; exact ⟨rfl, trivial⟩)
  · intro Q ρ I1 H hI1 hk hpost
    obtain ⟨_, -⟩ := hk
    have hc := Mem.le.refl I1
    refine ld 0 na3 rfl rfl rfl rfl ?_
    refine WL.nil ?_
    exact hpost _ _ hc rfl _ (fun _ hd => by obtain rfl := Option.some.inj hd; exact ⟨rfl, trivial⟩)
  · intro Q ρ I1 H hI1 hk hpost
    obtain ⟨_, -⟩ := hk
    have hc := Mem.le.refl I1
    refine cv8 Try.underlying3 Try.underlying5 rfl rfl ?_
    refine WL.nil ?_
    exact hpost _ _ hc rfl _ (fun _ hd => by obtain rfl := Option.some.inj hd; exact ⟨rfl, trivial⟩)
  · intro Q ρ I1 H hI1 hk hpost
    obtain ⟨_, -⟩ := hk
    have hc := Mem.le.refl I1
    refine bs (os := [.tmp 13]) (xs := ([(u8of p0.Kind)] : List UInt8)) et22 rfl rfl ⟨(Rv.of_u8 _ (u8of p0.Kind)), trivial⟩ rfl rfl rfl rfl (fun a10 c11 => ?_)
    refine WL.nil ?_
    exact hpost _ _ hc trivial _ (fun _ hd => by obtain rfl := Option.some.inj hd; exact ⟨rfl, trivial⟩)
  · intro Q ρ I1 H hI1 hk hpost
    have hc := Mem.le.refl I1
    refine fa fl41_1 rfl rfl ?_
    refine WL.nil ?_
    exact hpost _ _ hc rfl _ (fun _ hd => by obtain rfl := Option.some.inj hd; exact ⟨rfl, trivial⟩)
  · intro Q ρ I1 H hI1 hk hpost
    obtain ⟨_, -⟩ := hk
    have hc := Mem.le.refl I1
    refine ld 0 na3 rfl rfl rfl rfl ?_
    refine WL.nil ?_
    exact hpost _ _ hc rfl _ (fun _ hd => by obtain rfl := Option.some.inj hd; exact ⟨rfl, trivial⟩)
  · intro Q ρ I1 H hI1 hk hpost
    obtain ⟨_, -⟩ := hk
    have hc := Mem.le.refl I1
    refine call cl59 rfl rfl (W59 e14) (fun _ J15 _ hJ16 q17 => ?_)
    have hc := hc.trans hJ16
    obtain ⟨a18, c19, rfl, rfl⟩ := q17
    refine WL.nil ?_
    exact hpost _ _ hc trivial _ (fun _ hd => by obtain rfl := Option.some.inj hd; exact ⟨rfl, trivial⟩)
  · intro Q ρ I1 H hI1 hk hpost
    have hc := Mem.le.refl I1
    refine fa fl41_2 rfl rfl ?_
    refine WL.nil ?_
    exact hpost _ _ hc rfl _ (fun _ hd => by obtain rfl := Option.some.inj hd; exact ⟨rfl, trivial⟩)
  · intro Q ρ I1 H hI1 hk hpost
    obtain ⟨_, -⟩ := hk
    have hc := Mem.le.refl I1
    refine ld 0 na3 rfl rfl rfl rfl ?_
    refine WL.nil ?_
    exact hpost _ _ hc rfl _ (fun _ hd => by obtain rfl := Option.some.inj hd; exact ⟨rfl, trivial⟩)
  · intro Q ρ I1 H hI1 hk hpost
    obtain ⟨_, -⟩ := hk
    have hc := Mem.le.refl I1
    refine call cl59 rfl rfl (W59 e22) (fun _ J23 _ hJ24 q25 => ?_)
    have hc := hc.trans hJ24
    obtain ⟨a26, c27, rfl, rfl⟩ := q25
    refine WL.nil ?_
    exact hpost _ _ hc trivial _ (fun _ hd => by obtain rfl := Option.some.inj hd; exact ⟨rfl, trivial⟩)
  · intro Q ρ I1 H hI1 hk hpost
    obtain ⟨_, _, _, -⟩ := hk
    have hc := Mem.le.refl I1
    refine WL.freeze (fun J32 hJ33 h34 => ?_)
    have hc := hc.trans hJ33
    refine WL.freeze (fun J35 hJ36 h37 => ?_)
    have hc := hc.trans hJ36
    replace h34 := h34.up hJ36
    refine WL.freeze (fun J38 hJ39 h40 => ?_)
    have hc := hc.trans hJ39
    replace h34 := h34.up hJ39; replace h37 := h37.up hJ39
    refine bs (os := [.tmp 14, .tmp 17, .tmp 20]) (xs := ([([(u8of p0.Kind)] : List UInt8), x13, x21] : List (List UInt8))) et37 rfl rfl ⟨(h34).rv, (h37).rv, (h40).rv, trivial⟩ rfl rfl rfl rfl (fun a29 c30 => ?_)
    refine WL.ren (Option.some.inj e42) ?_
    refine WL.nil ?_
    exact hpost _ _ hc trivial _ (fun _ hd => by obtain rfl := Option.some.inj hd; exact ⟨rfl, trivial⟩)
  · intro Q ρ I1 H hI1 hk hpost
    obtain ⟨_, -⟩ := hk
    have hc := Mem.le.refl I1
    refine WL.freeze (fun J43 hJ44 h45 => ?_)
    have hc := hc.trans hJ44
    refine call cl54 rfl rfl (W54 e47 h45) (fun _ J48 _ hJ49 q50 => ?_)
    have hc := hc.trans hJ49
    replace h45 := h45.up hJ49
    obtain ⟨a51, c52, rfl, rfl⟩ := q50
    refine WL.nil ?_
    exact hpost _ _ hc trivial _ (fun _ hd => by obtain rfl := Option.some.inj hd; exact ⟨rfl, trivial⟩)
  · intro Q ρ I1 H hI1 hk hpost
    obtain ⟨_, -⟩ := hk
    have hc := Mem.le.refl I1
    refine asg rfl rfl ?_
    refine WL.nil ?_
    exact hpost _ _ hc trivial _ (fun _ hd => by obtain rfl := Option.some.inj hd; exact ⟨rfl, trivial⟩)
  rintro ρ J54 hJ55 -
  refine WX.sub (r := [(1, (.pointer (some ⟨g1, 0, none⟩))), (5, (ρ 12))]) ?_ ⟨rfl, rfl, trivial⟩
  refine WX.is (H := bl g1 #[(.int .i64 p0.Kind), (.int .i64 p0.Path), (.int .i64 p0.Number), (.int .i64 p0.Of), (.int .i64 p0.From), (.slice a0_5 p0.Data.length c0_5), (.bool p0.Fin), (.int .i64 p0.Seen), (.int .i64 p0.Limit)] 41 :: OV 5 (ρ 12) x46 :: G) rfl ?_
  have hI := hI.trans hJ55
  replace hp0_5 := hp0_5.up hJ55
  refine WX.front 1 ?_
  generalize ρ 12 = uv56 at *; refine WX.hd (fun a57 c58 e => ?_); subst e
  refine WX.then_ ?_
  refine WC.seq ?_
  refine WC.seq ?_
  refine WC.region ?_
  refine fa fl41_0 rfl rfl ?_
  refine ld 1 na3 rfl rfl rfl rfl ?_
  refine WL.next ?_
  refine WC.block ?_
  refine WC.seq ?_
  refine WC.region ?_
  refine eq rfl rfl rfl ?_
  refine asg rfl rfl ?_
  refine WL.next ?_
  refine WC.ite rfl h (fun k59 h => ?_) (fun k59 h => ?_)
  · skip
    refine WC.region ?_
    refine mv rfl rfl ?_
    refine fa fl41_3 rfl rfl ?_
    refine ld 1 na3 rfl rfl rfl rfl ?_
    obtain ⟨x60, e61, h⟩ := bnd h
    refine call cl59 rfl rfl (W59 e61) (fun _ J62 _ hJ63 q64 => ?_)
    have hI := hI.trans hJ63
    replace hp0_5 := hp0_5.up hJ63
    obtain ⟨a65, c66, rfl, rfl⟩ := q64
    refine WL.front 1 ?_
    obtain ⟨k68, h⟩ := chk h
    refine ap et22 rfl rfl ((OV.rd 1 rfl)) k68 rfl (fun a69 c70 => ?_)
    refine asg rfl rfl ?_
    refine WL.del 1 ?_
    refine WL.del 1 ?_
    refine WL.nil ?_
    refine WX.block_normal ?_
    refine WX.then_ ?_
    refine WC.seq ?_
    refine WC.region ?_
    refine mv rfl rfl ?_
    refine asg rfl rfl ?_
    refine asg rfl rfl ?_
    refine WL.next ?_
    refine WC.ret ?_
    cases h
    exact ret2 Try.results31 rfl rfl hI ⟨_, _, rfl, rfl⟩
  refine WC.seq ?_
  refine WC.region ?_
  refine eq rfl rfl rfl ?_
  refine asg rfl rfl ?_
  refine WL.next ?_
  refine WC.ite rfl h (fun k71 h => ?_) (fun k71 h => ?_)
  · skip
    refine WC.sub (r := [(1, (.pointer (some ⟨g1, 0, none⟩))), (5, (.slice a57 x46.length c58))]) ?_ ⟨rfl, rfl, trivial⟩
    obtain ⟨x72, e73, h⟩ := bnd h
    obtain ⟨x80, e81, h⟩ := bnd h
    obtain ⟨x103, e104, h⟩ := bnd h
    obtain ⟨x111, e112, h⟩ := bnd h
    obtain ⟨k119, h⟩ := chk h
    refine WC.front 1 ?_
    refine WC.drawn mo (nthL [[], [], [1], [1, 2], [], [4], [1, 2, 3, 4, 5], [0, 1, 2, 3, 4, 5, 6], [0, 1, 2, 3, 4, 5, 6, 7], [], [9], [0, 1, 2, 3, 4, 5, 6, 7, 8, 9, 10], [0, 1, 2, 3, 4, 5, 6, 7, 8, 9, 10, 11], [0, 1, 2, 3, 4, 5, 6, 7, 8, 9, 10, 11, 12], [0, 1, 2, 3, 4, 5, 6, 7, 8, 9, 10, 11, 12, 13]]) (nthL [[], [], [1], [2], [], [4], [5], [0, 3, 6], [7], [], [9], [10], [11], [8, 12], [13]]) (nthK [.val (.slice a57 x46.length c58), .val (.pointer (some ⟨g1, 4, none⟩)), .val (.int .i64 p0.From), .any, .val (.pointer (some ⟨g1, 5, none⟩)), .val (.slice a0_5 p0.Data.length c0_5), .any, .any, .any, .val (.pointer (some ⟨g1, 6, none⟩)), .val (.bool p0.Fin), .val (.int .u8 (x111.toNat : Int)), .any, .any, .any]) [⟨none, none, [2, 5, 10], [], fun _ => bl g1 #[(.int .i64 p0.Kind), (.int .i64 p0.Path), (.int .i64 p0.Number), (.int .i64 p0.Of), (.int .i64 p0.From), (.slice a0_5 p0.Data.length c0_5), (.bool p0.Fin), (.int .i64 p0.Seen), (.int .i64 p0.Limit)] 41⟩, ⟨(some 3), (some 7), [], [3], fun l => OV 5 (vget l 0) x72⟩, ⟨(some 6), (some 7), [], [6], fun l => OV 5 (vget l 0) x80⟩, ⟨none, (some 7), [], [], fun _ => OV 5 (.slice a57 x46.length c58) x46⟩, ⟨(some 7), (some 8), [], [7], fun l => OV 22 (vget l 0) ([x46, x72, x80] : List (List UInt8))⟩, ⟨(some 8), (some 13), [], [8], fun l => OV 5 (vget l 0) x103⟩, ⟨(some 12), none, [13], [12], fun l => OV 5 (vget l 0) ([x111] : List UInt8)⟩, ⟨(some 13), (some 14), [], [13], fun l => OV 5 (vget l 0) (x103 ++ ([x111] : List UInt8))⟩, ⟨(some 14), none, [], [14], fun l => OV 5 (vget l 0) (x103 ++ ([x111] : List UInt8))⟩] (by kernel_rfl) (by kernel_rfl) (by kernel_rfl) (H := G) rfl ⟨?_, ?_, ?_, ?_, ?_, ?_, ?_, ?_, ?_, ?_, ?_, ?_, ?_, ?_, ?_, trivial⟩ ?_
    · intro Q ρ I1 H hI1 hk hpost
      have hc := Mem.le.refl I1
      refine mv rfl rfl ?_
      refine WL.nil ?_
      exact hpost _ _ hc rfl _ (fun _ hd => by obtain rfl := Option.some.inj hd; exact ⟨rfl, trivial⟩)
    · intro Q ρ I1 H hI1 hk hpost
      have hc := Mem.le.refl I1
      refine fa fl41_4 rfl rfl ?_
      refine WL.nil ?_
      exact hpost _ _ hc rfl _ (fun _ hd => by obtain rfl := Option.some.inj hd; exact ⟨rfl, trivial⟩)
    · intro Q ρ I1 H hI1 hk hpost
      obtain ⟨_, -⟩ := hk
      have hc := Mem.le.refl I1
      refine ld 0 na3 rfl rfl rfl rfl ?_
      refine WL.nil ?_
      exact hpost _ _ hc rfl _ (fun _ hd => by obtain rfl := Option.some.inj hd; exact ⟨rfl, trivial⟩)
    · intro Q ρ I1 H hI1 hk hpost
      obtain ⟨_, -⟩ := hk
      have hc := Mem.le.refl I1
      refine call cl59 rfl rfl (W59 e73) (fun _ J74 _ hJ75 q76 => ?_)
      have hc := hc.trans hJ75
      obtain ⟨a77, c78, rfl, rfl⟩ := q76
      refine WL.nil ?_
      exact hpost _ _ hc trivial _ (fun _ hd => by obtain rfl := Option.some.inj hd; exact ⟨rfl, trivial⟩)
    · intro Q ρ I1 H hI1 hk hpost
      have hc := Mem.le.refl I1
      refine fa fl41_5 rfl rfl ?_
      refine WL.nil ?_
      exact hpost _ _ hc rfl _ (fun _ hd => by obtain rfl := Option.some.inj hd; exact ⟨rfl, trivial⟩)
    · intro Q ρ I1 H hI1 hk hpost
      obtain ⟨_, -⟩ := hk
      have hc := Mem.le.refl I1
      refine ld 0 na22 rfl rfl rfl rfl ?_
      refine WL.nil ?_
      exact hpost _ _ hc rfl _ (fun _ hd => by obtain rfl := Option.some.inj hd; exact ⟨rfl, trivial⟩)
    · intro Q ρ I1 H hI1 hk hpost
      obtain ⟨_, -⟩ := hk
      replace hp0_5 := hp0_5.up hI1
      have hc := Mem.le.refl I1
      refine call cl60 rfl rfl (W60 e81 hp0_5) (fun _ J82 _ hJ83 q84 => ?_)
      have hc := hc.trans hJ83
      replace hp0_5 := hp0_5.up hJ83
      obtain ⟨a85, c86, rfl, rfl⟩ := q84
      refine WL.nil ?_
      exact hpost _ _ hc trivial _ (fun _ hd => by obtain rfl := Option.some.inj hd; exact ⟨rfl, trivial⟩)
    · intro Q ρ I1 H hI1 hk hpost
      obtain ⟨_, _, _, -⟩ := hk
      have hc := Mem.le.refl I1
      refine WL.front 2 ?_
      refine WL.freeze (fun J91 hJ92 h93 => ?_)
      have hc := hc.trans hJ92
      refine WL.freeze (fun J94 hJ95 h96 => ?_)
      have hc := hc.trans hJ95
      replace h93 := h93.up hJ95
      refine WL.freeze (fun J97 hJ98 h99 => ?_)
      have hc := hc.trans hJ98
      replace h93 := h93.up hJ98; replace h96 := h96.up hJ98
      refine bs (os := [.tmp 34, .tmp 37, .tmp 40]) (xs := ([x46, x72, x80] : List (List UInt8))) et37 rfl rfl ⟨(h93).rv, (h96).rv, (h99).rv, trivial⟩ rfl rfl rfl rfl (fun a88 c89 => ?_)
      refine WL.nil ?_
      exact hpost _ _ hc trivial _ (fun _ hd => by obtain rfl := Option.some.inj hd; exact ⟨rfl, trivial⟩)
    · intro Q ρ I1 H hI1 hk hpost
      obtain ⟨_, -⟩ := hk
      have hc := Mem.le.refl I1
      refine WL.freeze (fun J100 hJ101 h102 => ?_)
      have hc := hc.trans hJ101
      refine call cl54 rfl rfl (W54 e104 h102) (fun _ J105 _ hJ106 q107 => ?_)
      have hc := hc.trans hJ106
      replace h102 := h102.up hJ106
      obtain ⟨a108, c109, rfl, rfl⟩ := q107
      refine WL.nil ?_
      exact hpost _ _ hc trivial _ (fun _ hd => by obtain rfl := Option.some.inj hd; exact ⟨rfl, trivial⟩)
    · intro Q ρ I1 H hI1 hk hpost
      have hc := Mem.le.refl I1
      refine fa fl41_6 rfl rfl ?_
      refine WL.nil ?_
      exact hpost _ _ hc rfl _ (fun _ hd => by obtain rfl := Option.some.inj hd; exact ⟨rfl, trivial⟩)
    · intro Q ρ I1 H hI1 hk hpost
      obtain ⟨_, -⟩ := hk
      have hc := Mem.le.refl I1
      refine ld 0 na4 rfl rfl rfl rfl ?_
      refine WL.nil ?_
      exact hpost _ _ hc rfl _ (fun _ hd => by obtain rfl := Option.some.inj hd; exact ⟨rfl, trivial⟩)
    · intro Q ρ I1 H hI1 hk hpost
      obtain ⟨_, -⟩ := hk
      have hc := Mem.le.refl I1
      refine call cl61 rfl rfl (W61 e112) (fun _ J113 _ hJ114 q115 => ?_)
      have hc := hc.trans hJ114
      obtain ⟨rfl, rfl⟩ := q115
      refine WL.nil ?_
      exact hpost _ _ hc rfl _ (fun _ hd => by obtain rfl := Option.some.inj hd; exact ⟨rfl, trivial⟩)
    · intro Q ρ I1 H hI1 hk hpost
      obtain ⟨_, -⟩ := hk
      have hc := Mem.le.refl I1
      refine bs (os := [.tmp 45]) (xs := ([x111] : List UInt8)) et22 rfl rfl ⟨(Rv.of_u8 _ x111), trivial⟩ rfl rfl rfl rfl (fun a116 c117 => ?_)
      refine WL.nil ?_
      exact hpost _ _ hc trivial _ (fun _ hd => by obtain rfl := Option.some.inj hd; exact ⟨rfl, trivial⟩)
    · intro Q ρ I1 H hI1 hk hpost
      obtain ⟨_, _, -⟩ := hk
      have hc := Mem.le.refl I1
      refine ap et22 rfl rfl ((OV.rd 1 rfl)) k119 rfl (fun a120 c121 => ?_)
      refine WL.front 1 ?_
      refine WL.front 1 ?_
      refine WL.nil ?_
      exact hpost _ _ hc trivial _ (fun _ hd => by obtain rfl := Option.some.inj hd; exact ⟨rfl, trivial⟩)
    · intro Q ρ I1 H hI1 hk hpost
      obtain ⟨_, -⟩ := hk
      have hc := Mem.le.refl I1
      refine asg rfl rfl ?_
      refine WL.nil ?_
      exact hpost _ _ hc trivial _ (fun _ hd => by obtain rfl := Option.some.inj hd; exact ⟨rfl, trivial⟩)
    rintro ρ J122 hJ123 -
    refine WX.sub (r := [(5, (ρ 14))]) ?_ ⟨rfl, trivial⟩
    refine WX.is (H := bl g1 #[(.int .i64 p0.Kind), (.int .i64 p0.Path), (.int .i64 p0.Number), (.int .i64 p0.Of), (.int .i64 p0.From), (.slice a0_5 p0.Data.length c0_5), (.bool p0.Fin), (.int .i64 p0.Seen), (.int .i64 p0.Limit)] 41 :: OV 5 (ρ 12) ([x111] : List UInt8) :: OV 5 (ρ 14) (x103 ++ ([x111] : List UInt8)) :: G) rfl ?_
    have hI := hI.trans hJ123
    replace hp0_5 := hp0_5.up hJ123
    refine WX.front 2 ?_
    generalize ρ 14 = uv124 at *; refine WX.hd (fun a125 c126 e => ?_); subst e
    refine WX.block_normal ?_
    refine WX.then_ ?_
    refine WC.seq ?_
    refine WC.region ?_
    refine mv rfl rfl ?_
    refine asg rfl rfl ?_
    refine asg rfl rfl ?_
    refine WL.del 1 ?_
    refine WL.del 1 ?_
    refine WL.next ?_
    refine WC.ret ?_
    cases h
    exact ret2 Try.results31 rfl rfl hI ⟨_, _, rfl, rfl⟩
  refine WC.seq ?_
  refine WC.region ?_
  refine eq rfl rfl rfl ?_
  refine asg rfl rfl ?_
  refine WL.next ?_
  refine WC.ite rfl h (fun k127 h => ?_) (fun k127 h => ?_)
  · skip
    refine WC.sub (r := [(1, (.pointer (some ⟨g1, 0, none⟩))), (5, (.slice a57 x46.length c58))]) ?_ ⟨rfl, rfl, trivial⟩
    obtain ⟨x128, e129, h⟩ := bnd h
    obtain ⟨x136, e137, h⟩ := bnd h
    obtain ⟨x144, e145, h⟩ := bnd h
    obtain ⟨x170, e171, h⟩ := bnd h
    refine WC.front 1 ?_
    refine WC.drawn mo (nthL [[], [], [1], [1, 2], [], [4], [1, 2, 3, 4, 5], [], [7], [1, 2, 3, 4, 5, 6, 7, 8], [0, 1, 2, 3, 4, 5, 6, 7, 8, 9], [0, 1, 2, 3, 4, 5, 6, 7, 8, 9, 10], [0, 1, 2, 3, 4, 5, 6, 7, 8, 9, 10, 11]]) (nthL [[], [], [1], [2], [], [4], [5], [], [7], [8], [0, 3, 6, 9], [10], [11]]) (nthK [.val (.slice a57 x46.length c58), .val (.pointer (some ⟨g1, 3, none⟩)), .val (.int .i64 p0.Of), .any, .val (.pointer (some ⟨g1, 7, none⟩)), .val (.int .i64 p0.Seen), .any, .val (.pointer (some ⟨g1, 8, none⟩)), .val (.int .i64 p0.Limit), .any, .any, .any, .any]) [⟨none, none, [2, 5, 8], [], fun _ => bl g1 #[(.int .i64 p0.Kind), (.int .i64 p0.Path), (.int .i64 p0.Number), (.int .i64 p0.Of), (.int .i64 p0.From), (.slice a0_5 p0.Data.length c0_5), (.bool p0.Fin), (.int .i64 p0.Seen), (.int .i64 p0.Limit)] 41⟩, ⟨(some 3), (some 10), [], [3], fun l => OV 5 (vget l 0) x128⟩, ⟨(some 6), (some 10), [], [6], fun l => OV 5 (vget l 0) x136⟩, ⟨(some 9), (some 10), [], [9], fun l => OV 5 (vget l 0) x144⟩, ⟨none, (some 10), [], [], fun _ => OV 5 (.slice a57 x46.length c58) x46⟩, ⟨(some 10), (some 11), [], [10], fun l => OV 22 (vget l 0) ([x46, x128, x136, x144] : List (List UInt8))⟩, ⟨(some 11), (some 12), [], [11], fun l => OV 5 (vget l 0) x170⟩, ⟨(some 12), none, [], [12], fun l => OV 5 (vget l 0) x170⟩] (by kernel_rfl) (by kernel_rfl) (by kernel_rfl) (H := G) rfl ⟨?_, ?_, ?_, ?_, ?_, ?_, ?_, ?_, ?_, ?_, ?_, ?_, ?_, trivial⟩ ?_
    · intro Q ρ I1 H hI1 hk hpost
      have hc := Mem.le.refl I1
      refine mv rfl rfl ?_
      refine WL.nil ?_
      exact hpost _ _ hc rfl _ (fun _ hd => by obtain rfl := Option.some.inj hd; exact ⟨rfl, trivial⟩)
    · intro Q ρ I1 H hI1 hk hpost
      have hc := Mem.le.refl I1
      refine fa fl41_3 rfl rfl ?_
      refine WL.nil ?_
      exact hpost _ _ hc rfl _ (fun _ hd => by obtain rfl := Option.some.inj hd; exact ⟨rfl, trivial⟩)
    · intro Q ρ I1 H hI1 hk hpost
      obtain ⟨_, -⟩ := hk
      have hc := Mem.le.refl I1
      refine ld 0 na3 rfl rfl rfl rfl ?_
      refine WL.nil ?_
      exact hpost _ _ hc rfl _ (fun _ hd => by obtain rfl := Option.some.inj hd; exact ⟨rfl, trivial⟩)
    · intro Q ρ I1 H hI1 hk hpost
      obtain ⟨_, -⟩ := hk
      have hc := Mem.le.refl I1
      refine call cl59 rfl rfl (W59 e129) (fun _ J130 _ hJ131 q132 => ?_)
      have hc := hc.trans hJ131
      obtain ⟨a133, c134, rfl, rfl⟩ := q132
      refine WL.nil ?_
      exact hpost _ _ hc trivial _ (fun _ hd => by obtain rfl := Option.some.inj hd; exact ⟨rfl, trivial⟩)
    · intro Q ρ I1 H hI1 hk hpost
      have hc := Mem.le.refl I1
      refine fa fl41_7 rfl rfl ?_
      refine WL.nil ?_
      exact hpost _ _ hc rfl _ (fun _ hd => by obtain rfl := Option.some.inj hd; exact ⟨rfl, trivial⟩)
    · intro Q ρ I1 H hI1 hk hpost
      obtain ⟨_, -⟩ := hk
      have hc := Mem.le.refl I1
      refine ld 0 na3 rfl rfl rfl rfl ?_
      refine WL.nil ?_
      exact hpost _ _ hc rfl _ (fun _ hd => by obtain rfl := Option.some.inj hd; exact ⟨rfl, trivial⟩)
    · intro Q ρ I1 H hI1 hk hpost
      obtain ⟨_, -⟩ := hk
      have hc := Mem.le.refl I1
      refine call cl59 rfl rfl (W59 e137) (fun _ J138 _ hJ139 q140 => ?_)
      have hc := hc.trans hJ139
      obtain ⟨a141, c142, rfl, rfl⟩ := q140
      refine WL.nil ?_
      exact hpost _ _ hc trivial _ (fun _ hd => by obtain rfl := Option.some.inj hd; exact ⟨rfl, trivial⟩)
    · intro Q ρ I1 H hI1 hk hpost
      have hc := Mem.le.refl I1
      refine fa fl41_8 rfl rfl ?_
      refine WL.nil ?_
      exact hpost _ _ hc rfl _ (fun _ hd => by obtain rfl := Option.some.inj hd; exact ⟨rfl, trivial⟩)
    · intro Q ρ I1 H hI1 hk hpost
      obtain ⟨_, -⟩ := hk
      have hc := Mem.le.refl I1
      refine ld 0 na3 rfl rfl rfl rfl ?_
      refine WL.nil ?_
      exact hpost _ _ hc rfl _ (fun _ hd => by obtain rfl := Option.some.inj hd; exact ⟨rfl, trivial⟩)
    · intro Q ρ I1 H hI1 hk hpost
      obtain ⟨_, -⟩ := hk
      have hc := Mem.le.refl I1
      refine call cl59 rfl rfl (W59 e145) (fun _ J146 _ hJ147 q148 => ?_)
      have hc := hc.trans hJ147
      obtain ⟨a149, c150, rfl, rfl⟩ := q148
      refine WL.nil ?_
      exact hpost _ _ hc trivial _ (fun _ hd => by obtain rfl := Option.some.inj hd; exact ⟨rfl, trivial⟩)
    · intro Q ρ I1 H hI1 hk hpost
      obtain ⟨_, _, _, _, -⟩ := hk
      have hc := Mem.le.refl I1
      refine WL.front 3 ?_
      refine WL.freeze (fun J155 hJ156 h157 => ?_)
      have hc := hc.trans hJ156
      refine WL.freeze (fun J158 hJ159 h160 => ?_)
      have hc := hc.trans hJ159
      replace h157 := h157.up hJ159
      refine WL.freeze (fun J161 hJ162 h163 => ?_)
      have hc := hc.trans hJ162
      replace h157 := h157.up hJ162; replace h160 := h160.up hJ162
      refine WL.freeze (fun J164 hJ165 h166 => ?_)
      have hc := hc.trans hJ165
      replace h157 := h157.up hJ165; replace h160 := h160.up hJ165; replace h163 := h163.up hJ165
      refine bs (os := [.tmp 50, .tmp 53, .tmp 56, .tmp 59]) (xs := ([x46, x128, x136, x144] : List (List UInt8))) et37 rfl rfl ⟨(h157).rv, (h160).rv, (h163).rv, (h166).rv, trivial⟩ rfl rfl rfl rfl (fun a152 c153 => ?_)
      refine WL.nil ?_
      exact hpost _ _ hc trivial _ (fun _ hd => by obtain rfl := Option.some.inj hd; exact ⟨rfl, trivial⟩)
    · intro Q ρ I1 H hI1 hk hpost
      obtain ⟨_, -⟩ := hk
      have hc := Mem.le.refl I1
      refine WL.freeze (fun J167 hJ168 h169 => ?_)
      have hc := hc.trans hJ168
      refine call cl54 rfl rfl (W54 e171 h169) (fun _ J172 _ hJ173 q174 => ?_)
      have hc := hc.trans hJ173
      replace h169 := h169.up hJ173
      obtain ⟨a175, c176, rfl, rfl⟩ := q174
      refine WL.nil ?_
      exact hpost _ _ hc trivial _ (fun _ hd => by obtain rfl := Option.some.inj hd; exact ⟨rfl, trivial⟩)
    · intro Q ρ I1 H hI1 hk hpost
      obtain ⟨_, -⟩ := hk
      have hc := Mem.le.refl I1
      refine asg rfl rfl ?_
      refine WL.nil ?_
      exact hpost _ _ hc trivial _ (fun _ hd => by obtain rfl := Option.some.inj hd; exact ⟨rfl, trivial⟩)
    rintro ρ J178 hJ179 -
    refine WX.sub (r := [(5, (ρ 12))]) ?_ ⟨rfl, trivial⟩
    refine WX.is (H := bl g1 #[(.int .i64 p0.Kind), (.int .i64 p0.Path), (.int .i64 p0.Number), (.int .i64 p0.Of), (.int .i64 p0.From), (.slice a0_5 p0.Data.length c0_5), (.bool p0.Fin), (.int .i64 p0.Seen), (.int .i64 p0.Limit)] 41 :: OV 5 (ρ 12) x170 :: G) rfl ?_
    have hI := hI.trans hJ179
    replace hp0_5 := hp0_5.up hJ179
    refine WX.front 1 ?_
    generalize ρ 12 = uv180 at *; refine WX.hd (fun a181 c182 e => ?_); subst e
    refine WX.block_normal ?_
    refine WX.then_ ?_
    refine WC.seq ?_
    refine WC.region ?_
    refine mv rfl rfl ?_
    refine asg rfl rfl ?_
    refine asg rfl rfl ?_
    refine WL.del 1 ?_
    refine WL.next ?_
    refine WC.ret ?_
    cases h
    exact ret2 Try.results31 rfl rfl hI ⟨_, _, rfl, rfl⟩
  refine WC.skip ?_
  refine WX.block_normal ?_
  refine WX.then_ ?_
  refine WC.seq ?_
  refine WC.region ?_
  refine mv rfl rfl ?_
  refine asg rfl rfl ?_
  refine asg rfl rfl ?_
  refine WL.del 1 ?_
  refine WL.next ?_
  refine WC.ret ?_
  cases h
  exact ret2 Try.results31 rfl rfl hI ⟨_, _, rfl, rfl⟩
theorem W30 {I : Mem} {G : List Asn} {p0 : api_Packet} {r : (List UInt8) × Int} (h : packet_Pack p0 = some r) {u0_5 : Value} (hp0_5 : IV I u0_5 p0.Data) :
    CallsS Try.prog 30 #[.agg #[(.int .i64 p0.Kind), (.int .i64 p0.Path), (.int .i64 p0.Number), (.int .i64 p0.Of), (.int .i64 p0.From), u0_5, (.bool p0.Fin), (.int .i64 p0.Seen), (.int .i64 p0.Limit)]] I (G) (fun v J G' => ∃ ra0 rc0, v = .tuple #[.slice ra0 r.1.length rc0, .int .i64 r.2] ∧ OV 5 (.slice ra0 r.1.length rc0) r.1 :: G = G') := by
  refine CallsS.enter Try.func30 rfl Try.ntmps30 rfl (fun w0 => ?_)
  have hI := Mem.le.refl I
  obtain ⟨a0_5, c0_5, rfl⟩ := hp0_5.hd
  unfold packet_Pack at h
  refine WC.seq ?_
  refine WC.region ?_
  refine bx rfl rfl rfl (fun g1 => ?_)
  refine asg rfl rfl ?_
  refine asg rfl rfl ?_
  refine WL.next ?_
  refine WC.seq ?_
  refine WC.region ?_
  refine lda 0 ya41 rfl rfl rfl rfl rfl ?_
  obtain ⟨⟨x3, x4⟩, e5, h⟩ := bnd h
  refine call cl31 rfl rfl (W31 e5 hp0_5) (fun _ J6 _ hJ7 q8 => ?_)
  have hI := hI.trans hJ7
  replace hp0_5 := hp0_5.up hJ7
  obtain ⟨a9, c10, rfl, rfl⟩ := q8
  refine mv rfl rfl ?_
  refine ex rfl rfl rfl ?_
  refine ex rfl rfl rfl ?_
  refine asg rfl rfl ?_
  refine asg rfl rfl ?_
  refine WL.del 1 ?_
  refine WL.next ?_
  refine WC.seq ?_
  refine WC.seq ?_
  refine WC.region ?_
  refine mv rfl rfl ?_
  refine ne rfl rfl rfl ?_
  refine WL.next ?_
  refine WC.ite rfl h (fun k12 h => ?_) (fun k12 h => ?_)
  · skip
    refine WC.seq ?_
    refine WC.region ?_
    refine mv rfl rfl ?_
    refine asg rfl rfl ?_
    refine asg rfl rfl ?_
    refine WL.del 0 ?_
    refine WL.next ?_
    refine WC.ret ?_
    refine WX.then_ret ?_
    refine WX.own_nil UInt8 5 ?_
    cases h
    exact ret2 Try.results30 rfl rfl hI ⟨_, _, rfl, rfl⟩
  refine WC.skip ?_
  refine WX.then_ ?_
  refine WC.seq ?_
  refine WC.region ?_
  refine mv rfl rfl ?_
  refine WL.freeze (fun J14 hJ15 h16 => ?_)
  have hI := hI.trans hJ15
  obtain ⟨x17, e18, h⟩ := bnd h
  refine call cl16 rfl rfl (W16 e18 h16) (fun _ J19 _ hJ20 q21 => ?_)
  have hI := hI.trans hJ20
  replace h16 := h16.up hJ20
  obtain ⟨a22, c23, rfl, rfl⟩ := q21
  refine asg rfl rfl ?_
  refine asg rfl rfl ?_
  refine WL.next ?_
  refine WC.ret ?_
  cases h
  exact ret2 Try.results30 rfl rfl hI ⟨_, _, rfl, rfl⟩
theorem W33 {I : Mem} {G : List Asn} {r : Bool} (h : haulierlaw06_wakes = some r) :
    CallsS Try.prog 33 #[] I (G) (fun v J G' => v = .bool r ∧ G = G') := by
  refine CallsS.enter Try.func33 rfl Try.ntmps33 rfl (fun w0 => ?_)
  have hI := Mem.le.refl I
  unfold haulierlaw06_wakes at h
  refine WC.seq ?_
  refine WC.region ?_
  refine asg rfl rfl ?_
  refine WL.next ?_
  refine WC.seq ?_
  refine WC.region ?_
  refine bu bt41 rfl rfl rfl ?_
  obtain ⟨⟨x1, x2⟩, e3, h⟩ := bnd h
  refine call cl31 rfl rfl (W31 e3 (IV.nil _ : IV _ _ ([] : List UInt8))) (fun _ J4 _ hJ5 q6 => ?_)
  have hI := hI.trans hJ5
  obtain ⟨a7, c8, rfl, rfl⟩ := q6
  refine mv rfl rfl ?_
  refine ex rfl rfl rfl ?_
  refine ex rfl rfl rfl ?_
  refine asg rfl rfl ?_
  refine asg rfl rfl ?_
  refine WL.next ?_
  refine WC.seq ?_
  refine WC.region ?_
  refine bu bt41 rfl rfl rfl ?_
  obtain ⟨⟨x10, x11⟩, e12, h⟩ := bnd h
  refine call cl30 rfl rfl (W30 e12 (IV.nil _ : IV _ _ ([] : List UInt8))) (fun _ J13 _ hJ14 q15 => ?_)
  have hI := hI.trans hJ14
  obtain ⟨a16, c17, rfl, rfl⟩ := q15
  refine mv rfl rfl ?_
  refine ex rfl rfl rfl ?_
  refine ex rfl rfl rfl ?_
  refine asg rfl rfl ?_
  refine asg rfl rfl ?_
  refine WL.next ?_
  refine WC.seq ?_
  refine WC.region ?_
  refine mv rfl rfl ?_
  refine eq rfl rfl rfl ?_
  refine mv rfl rfl ?_
  rcases spl h with ⟨k19, h⟩ | ⟨k19, h⟩
  · skip
    refine WL.rb 17 rfl (bT k19) ?_
    refine WL.on rfl rfl ?_
    refine mv rfl rfl ?_
    refine WL.on rfl rfl ?_
    refine eq rfl rfl rfl ?_
    refine pkT rfl rfl rfl ?_
    refine mv rfl rfl ?_
    rcases spl h with ⟨k20, h⟩ | ⟨k20, h⟩
    · skip
      refine WL.rb 21 rfl (bT k20) ?_
      refine WL.on rfl rfl ?_
      refine mv rfl rfl ?_
      refine WL.on rfl rfl ?_
      refine bs (os := [.const (.int .u8 1), .const (.int .u8 1), .const (.int .u8 2)]) (xs := ([(1 : UInt8), (1 : UInt8), (2 : UInt8)] : List UInt8)) et22 rfl rfl ⟨(Rv.of_u8 _ (1 : UInt8)), (Rv.of_u8 _ (1 : UInt8)), (Rv.of_u8 _ (2 : UInt8)), trivial⟩ rfl rfl rfl rfl (fun a21 c22 => ?_)
      refine WL.on rfl rfl ?_
      refine WL.front 2 ?_
      refine WL.freeze (fun J24 hJ25 h26 => ?_)
      have hI := hI.trans hJ25
      refine WL.freeze (fun J27 hJ28 h29 => ?_)
      have hI := hI.trans hJ28
      replace h26 := h26.up hJ28
      obtain ⟨x30, e31, h⟩ := bnd h
      refine call cl17 rfl rfl (W17 e31 h26 h29) (fun _ J32 _ hJ33 q34 => ?_)
      have hI := hI.trans hJ33
      replace h26 := h26.up hJ33; replace h29 := h29.up hJ33
      obtain ⟨rfl, rfl⟩ := q34
      refine pkT rfl rfl rfl ?_
      refine mv rfl rfl ?_
      rcases spl h with ⟨k35, h⟩ | ⟨k35, h⟩
      · skip
        refine WL.rb 26 rfl (bt1 k35) ?_
        refine WL.on rfl rfl ?_
        refine mv rfl rfl ?_
        refine WL.on rfl rfl ?_
        refine ln et22 rfl (OV.rd 0 rfl) rfl ?_
        refine WL.on rfl rfl ?_
        refine eq rfl rfl rfl ?_
        refine pkT rfl rfl rfl ?_
        refine asg rfl rfl ?_
        refine WL.del 0 ?_
        refine WL.next ?_
        refine WC.ret ?_
        cases h
        exact ret1 Try.results33 rfl hI ⟨rfl, rfl⟩
      refine WL.rb 26 rfl (bf1 k35) ?_
      refine WL.no rfl rfl rfl rfl ?_
      refine WL.no rfl rfl rfl rfl ?_
      refine WL.no rfl rfl rfl rfl ?_
      refine pkF rfl rfl rfl ?_
      refine asg rfl rfl ?_
      refine WL.del 0 ?_
      refine WL.next ?_
      refine WC.ret ?_
      cases h
      exact ret1 Try.results33 rfl hI ⟨rfl, rfl⟩
    refine WL.rb 21 rfl (bF k20) ?_
    refine WL.no rfl rfl rfl rfl ?_
    refine WL.no rfl rfl rfl rfl ?_
    refine WL.no rfl rfl rfl rfl ?_
    refine pkF rfl rfl rfl ?_
    refine mv rfl rfl ?_
    refine WL.no rfl rfl rfl rfl ?_
    refine WL.no rfl rfl rfl rfl ?_
    refine WL.no rfl rfl rfl rfl ?_
    refine pkF rfl rfl rfl ?_
    refine asg rfl rfl ?_
    refine WL.del 0 ?_
    refine WL.del 0 ?_
    refine WL.next ?_
    refine WC.ret ?_
    cases h
    exact ret1 Try.results33 rfl hI ⟨rfl, rfl⟩
  refine WL.rb 17 rfl (bF k19) ?_
  refine WL.no rfl rfl rfl rfl ?_
  refine WL.no rfl rfl rfl rfl ?_
  refine pkF rfl rfl rfl ?_
  refine mv rfl rfl ?_
  refine WL.no rfl rfl rfl rfl ?_
  refine WL.no rfl rfl rfl rfl ?_
  refine WL.no rfl rfl rfl rfl ?_
  refine pkF rfl rfl rfl ?_
  refine mv rfl rfl ?_
  refine WL.no rfl rfl rfl rfl ?_
  refine WL.no rfl rfl rfl rfl ?_
  refine WL.no rfl rfl rfl rfl ?_
  refine pkF rfl rfl rfl ?_
  refine asg rfl rfl ?_
  refine WL.del 0 ?_
  refine WL.del 0 ?_
  refine WL.next ?_
  refine WC.ret ?_
  cases h
  exact ret1 Try.results33 rfl hI ⟨rfl, rfl⟩
theorem W65 {I : Mem} {G : List Asn} {p0 : api_Packet} {r : api_Packet} (h : haulierplay_Cut p0 = some r) {u0_5 : Value} (hp0_5 : IV I u0_5 p0.Data) :
    CallsS Try.prog 65 #[.agg #[(.int .i64 p0.Kind), (.int .i64 p0.Path), (.int .i64 p0.Number), (.int .i64 p0.Of), (.int .i64 p0.From), u0_5, (.bool p0.Fin), (.int .i64 p0.Seen), (.int .i64 p0.Limit)]] I (G) (fun v J G' => ∃ ra0_5 rc0_5, v = .agg #[.int .i64 r.Kind, .int .i64 r.Path, .int .i64 r.Number, .int .i64 r.Of, .int .i64 r.From, .slice ra0_5 r.Data.length rc0_5, .bool r.Fin, .int .i64 r.Seen, .int .i64 r.Limit] ∧ IV J (.slice ra0_5 r.Data.length rc0_5) r.Data ∧ G = G') := by
  refine CallsS.enter Try.func65 rfl Try.ntmps65 rfl (fun w0 => ?_)
  have hI := Mem.le.refl I
  obtain ⟨a0_5, c0_5, rfl⟩ := hp0_5.hd
  unfold haulierplay_Cut at h
  refine WC.seq ?_
  refine WC.region ?_
  refine bx rfl rfl rfl (fun g1 => ?_)
  refine al Try.zeroValue41 rfl (fun g3 => ?_)
  refine WL.next ?_
  refine WC.seq ?_
  refine WC.region ?_
  refine fa fl41_5 rfl rfl ?_
  refine ld 1 na22 rfl rfl rfl rfl ?_
  obtain ⟨x5, e6, h⟩ := bnd h
  refine call cl15 rfl rfl (W15 e6 hp0_5) (fun _ J7 _ hJ8 q9 => ?_)
  have hI := hI.trans hJ8
  replace hp0_5 := hp0_5.up hJ8
  obtain ⟨a10, c11, rfl, rfl⟩ := q9
  refine fa fl41_5 rfl rfl ?_
  refine WL.front 2 ?_
  refine st (C' := #[(.int .i64 p0.Kind), (.int .i64 p0.Path), (.int .i64 p0.Number), (.int .i64 p0.Of), (.int .i64 p0.From), (.slice a10 x5.length c11), (.bool p0.Fin), (.int .i64 p0.Seen), (.int .i64 p0.Limit)]) sz22 rfl rfl rfl rfl rfl ?_
  refine WL.next ?_
  refine WC.seq ?_
  refine WC.region ?_
  refine lda 0 ya41 rfl rfl rfl rfl rfl ?_
  refine WL.front 2 ?_
  refine sta (C' := #[(.int .i64 p0.Kind), (.int .i64 p0.Path), (.int .i64 p0.Number), (.int .i64 p0.Of), (.int .i64 p0.From), (.slice a10 x5.length c11), (.bool p0.Fin), (.int .i64 p0.Seen), (.int .i64 p0.Limit)]) sz41 rfl rfl rfl rfl rfl rfl ?_
  refine WL.del 1 ?_
  refine WL.next ?_
  refine WC.ret ?_
  refine WX.front 1 ?_
  refine WX.freeze (fun J13 hJ14 h15 => ?_)
  have hI := hI.trans hJ14
  cases h
  exact retC1x Try.results65 (fun a w ha hw => RC.cellA ha hw 0 rfl ya41 rfl rfl) (fun w hw => hw |>.del 0) hI ⟨_, _, rfl, h15, rfl⟩
theorem W34 {I : Mem} {G : List Asn} {p0 : api_Packet} {p1 : Int} {r : api_Packet} (h : haulierplay_Packet p0 p1 = some r) {u0_5 : Value} (hp0_5 : IV I u0_5 p0.Data) :
    CallsS Try.prog 34 #[.agg #[(.int .i64 p0.Kind), (.int .i64 p0.Path), (.int .i64 p0.Number), (.int .i64 p0.Of), (.int .i64 p0.From), u0_5, (.bool p0.Fin), (.int .i64 p0.Seen), (.int .i64 p0.Limit)], .int .i64 p1] I (G) (fun v J G' => ∃ ra0_5 rc0_5, v = .agg #[.int .i64 r.Kind, .int .i64 r.Path, .int .i64 r.Number, .int .i64 r.Of, .int .i64 r.From, .slice ra0_5 r.Data.length rc0_5, .bool r.Fin, .int .i64 r.Seen, .int .i64 r.Limit] ∧ IV J (.slice ra0_5 r.Data.length rc0_5) r.Data ∧ G = G') := by
  refine CallsS.enter Try.func34 rfl Try.ntmps34 rfl (fun w0 => ?_)
  have hI := Mem.le.refl I
  obtain ⟨a0_5, c0_5, rfl⟩ := hp0_5.hd
  unfold haulierplay_Packet at h
  refine WC.seq ?_
  refine WC.region ?_
  refine bx rfl rfl rfl (fun g1 => ?_)
  refine al Try.zeroValue41 rfl (fun g3 => ?_)
  refine WL.next ?_
  refine WC.seq ?_
  refine WC.region ?_
  refine asg rfl rfl ?_
  refine WL.next ?_
  refine WC.seq ?_
  refine WC.sub (r := [(1, (.int .i64 p1)), (2, (.pointer (some ⟨g1, 0, none⟩))), (4, (.pointer (some ⟨g3, 0, none⟩))), (5, (.func (.func 19) #[] #[]))]) ?_ ⟨rfl, rfl, rfl, rfl, trivial⟩
  obtain ⟨x5, e6, h⟩ := bnd h
  obtain ⟨x10, e11, h⟩ := bnd h
  obtain ⟨x15, e16, h⟩ := bnd h
  refine WC.front 1 ?_
  refine WC.drawn mo (nthL [[], [], [1], [0, 1, 2], [0, 1, 2, 3], [], [], [6], [0, 1, 2, 3, 5, 6, 7], [], [], [10], [0, 1, 2, 3, 5, 6, 7, 8, 9, 10, 11], [0, 1, 2, 3, 4, 5, 6, 7, 8, 9, 10, 11, 12], [], [0, 1, 2, 3, 4, 5, 6, 7, 8, 9, 10, 11, 12, 13, 14]]) (nthL [[], [], [1], [0, 2], [3], [], [], [6], [5, 7], [], [], [10], [9, 11], [4, 8, 12], [], [13, 14]]) (nthK [.val (.func (.func 19) #[] #[]), .val (.pointer (some ⟨g1, 0, none⟩)), .val (.int .i64 p0.Kind), .val (.int .i64 x5), .val (.int .i64 (w64 (1 + x5))), .val (.func (.func 19) #[] #[]), .val (.pointer (some ⟨g1, 1, none⟩)), .val (.int .i64 p0.Path), .val (.int .i64 x10), .val (.func (.func 19) #[] #[]), .val (.pointer (some ⟨g1, 2, none⟩)), .val (.int .i64 p0.Number), .val (.int .i64 x15), .val (.agg #[(.int .i64 (w64 (1 + x5))), (.int .i64 x10), (.int .i64 x15), (.int .i64 0), (.int .i64 0), (.slice none 0 0), (.bool false), (.int .i64 0), (.int .i64 0)]), .of (fun v _ => ∃ g, v = .pointer (some ⟨g, 0, none⟩)) (fun _ h => h), .any]) [⟨none, none, [2, 7, 11], [], fun _ => bl g1 #[(.int .i64 p0.Kind), (.int .i64 p0.Path), (.int .i64 p0.Number), (.int .i64 p0.Of), (.int .i64 p0.From), (.slice a0_5 p0.Data.length c0_5), (.bool p0.Fin), (.int .i64 p0.Seen), (.int .i64 p0.Limit)] 41⟩, ⟨(some 14), (some 15), [], [14], fun l => bl (pblk (vget l 0)) #[(.int .i64 0), (.int .i64 0), (.int .i64 0), (.int .i64 0), (.int .i64 0), (.slice none 0 0), (.bool false), (.int .i64 0), (.int .i64 0)] 41⟩, ⟨(some 15), none, [], [14], fun l => bl (pblk (vget l 0)) #[(.int .i64 (w64 (1 + x5))), (.int .i64 x10), (.int .i64 x15), (.int .i64 0), (.int .i64 0), (.slice none 0 0), (.bool false), (.int .i64 0), (.int .i64 0)] 41⟩] (by kernel_rfl) (by kernel_rfl) (by kernel_rfl) (H := bl g3 #[(.int .i64 0), (.int .i64 0), (.int .i64 0), (.int .i64 0), (.int .i64 0), (.slice none 0 0), (.bool false), (.int .i64 0), (.int .i64 0)] 41 :: G) rfl ⟨?_, ?_, ?_, ?_, ?_, ?_, ?_, ?_, ?_, ?_, ?_, ?_, ?_, ?_, ?_, ?_, trivial⟩ ?_
  · intro Q ρ I1 H hI1 hk hpost
    have hc := Mem.le.refl I1
    refine mv rfl rfl ?_
    refine WL.nil ?_
    exact hpost _ _ hc rfl _ (fun _ hd => by obtain rfl := Option.some.inj hd; exact ⟨rfl, trivial⟩)
  · intro Q ρ I1 H hI1 hk hpost
    have hc := Mem.le.refl I1
    refine fa fl41_0 rfl rfl ?_
    refine WL.nil ?_
    exact hpost _ _ hc rfl _ (fun _ hd => by obtain rfl := Option.some.inj hd; exact ⟨rfl, trivial⟩)
  · intro Q ρ I1 H hI1 hk hpost
    obtain ⟨_, -⟩ := hk
    have hc := Mem.le.refl I1
    refine ld 0 na3 rfl rfl rfl rfl ?_
    refine WL.nil ?_
    exact hpost _ _ hc rfl _ (fun _ hd => by obtain rfl := Option.some.inj hd; exact ⟨rfl, trivial⟩)
  · intro Q ρ I1 H hI1 hk hpost
    obtain ⟨_, _, -⟩ := hk
    have hc := Mem.le.refl I1
    refine callv cl19 rfl rfl rfl (W19 e6) (fun _ J7 _ hJ8 q9 => ?_)
    have hc := hc.trans hJ8
    obtain ⟨rfl, rfl⟩ := q9
    refine WL.nil ?_
    exact hpost _ _ hc rfl _ (fun _ hd => by obtain rfl := Option.some.inj hd; exact ⟨rfl, trivial⟩)
  · intro Q ρ I1 H hI1 hk hpost
    obtain ⟨_, -⟩ := hk
    have hc := Mem.le.refl I1
    refine ad rfl rfl rfl ?_
    refine WL.nil ?_
    exact hpost _ _ hc rfl _ (fun _ hd => by obtain rfl := Option.some.inj hd; exact ⟨rfl, trivial⟩)
  · intro Q ρ I1 H hI1 hk hpost
    have hc := Mem.le.refl I1
    refine mv rfl rfl ?_
    refine WL.nil ?_
    exact hpost _ _ hc rfl _ (fun _ hd => by obtain rfl := Option.some.inj hd; exact ⟨rfl, trivial⟩)
  · intro Q ρ I1 H hI1 hk hpost
    have hc := Mem.le.refl I1
    refine fa fl41_1 rfl rfl ?_
    refine WL.nil ?_
    exact hpost _ _ hc rfl _ (fun _ hd => by obtain rfl := Option.some.inj hd; exact ⟨rfl, trivial⟩)
  · intro Q ρ I1 H hI1 hk hpost
    obtain ⟨_, -⟩ := hk
    have hc := Mem.le.refl I1
    refine ld 0 na3 rfl rfl rfl rfl ?_
    refine WL.nil ?_
    exact hpost _ _ hc rfl _ (fun _ hd => by obtain rfl := Option.some.inj hd; exact ⟨rfl, trivial⟩)
  · intro Q ρ I1 H hI1 hk hpost
    obtain ⟨_, _, -⟩ := hk
    have hc := Mem.le.refl I1
    refine callv cl19 rfl rfl rfl (W19 e11) (fun _ J12 _ hJ13 q14 => ?_)
    have hc := hc.trans hJ13
    obtain ⟨rfl, rfl⟩ := q14
    refine WL.nil ?_
    exact hpost _ _ hc rfl _ (fun _ hd => by obtain rfl := Option.some.inj hd; exact ⟨rfl, trivial⟩)
  · intro Q ρ I1 H hI1 hk hpost
    have hc := Mem.le.refl I1
    refine mv rfl rfl ?_
    refine WL.nil ?_
    exact hpost _ _ hc rfl _ (fun _ hd => by obtain rfl := Option.some.inj hd; exact ⟨rfl, trivial⟩)
  · intro Q ρ I1 H hI1 hk hpost
    have hc := Mem.le.refl I1
    refine fa fl41_2 rfl rfl ?_
    refine WL.nil ?_
    exact hpost _ _ hc rfl _ (fun _ hd => by obtain rfl := Option.some.inj hd; exact ⟨rfl, trivial⟩)
  · intro Q ρ I1 H hI1 hk hpost
    obtain ⟨_, -⟩ := hk
    have hc := Mem.le.refl I1
    refine ld 0 na3 rfl rfl rfl rfl ?_
    refine WL.nil ?_
    exact hpost _ _ hc rfl _ (fun _ hd => by obtain rfl := Option.some.inj hd; exact ⟨rfl, trivial⟩)
  · intro Q ρ I1 H hI1 hk hpost
    obtain ⟨_, _, -⟩ := hk
    have hc := Mem.le.refl I1
    refine callv cl19 rfl rfl rfl (W19 e16) (fun _ J17 _ hJ18 q19 => ?_)
    have hc := hc.trans hJ18
    obtain ⟨rfl, rfl⟩ := q19
    refine WL.nil ?_
    exact hpost _ _ hc rfl _ (fun _ hd => by obtain rfl := Option.some.inj hd; exact ⟨rfl, trivial⟩)
  · intro Q ρ I1 H hI1 hk hpost
    obtain ⟨_, _, _, -⟩ := hk
    have hc := Mem.le.refl I1
    refine bu bt41 rfl rfl rfl ?_
    refine WL.nil ?_
    exact hpost _ _ hc rfl _ (fun _ hd => by obtain rfl := Option.some.inj hd; exact ⟨rfl, trivial⟩)
  · intro Q ρ I1 H hI1 hk hpost
    have hc := Mem.le.refl I1
    refine al Try.zeroValue41 rfl (fun g20 => ?_)
    refine WL.nil ?_
    exact hpost _ _ hc ⟨_, rfl⟩ _ (fun _ hd => by obtain rfl := Option.some.inj hd; exact ⟨rfl, trivial⟩)
  · intro Q ρ I1 H hI1 hk hpost
    obtain ⟨_, k14, -⟩ := hk
    have hc := Mem.le.refl I1
    refine WL.sub (r := [(6, (ρ 14)), (20, (.agg #[(.int .i64 (w64 (1 + x5))), (.int .i64 x10), (.int .i64 x15), (.int .i64 0), (.int .i64 0), (.slice none 0 0), (.bool false), (.int .i64 0), (.int .i64 0)]))]) ?_ ⟨rfl, rfl, trivial⟩
    refine WL.conv (H := bl (pblk (ρ 14)) #[(.int .i64 0), (.int .i64 0), (.int .i64 0), (.int .i64 0), (.int .i64 0), (.slice none 0 0), (.bool false), (.int .i64 0), (.int .i64 0)] 41 :: H) (fun _ h => h) ?_
    obtain ⟨gp14, ex14⟩ := k14
    try rw [ex14]
    refine sta (C' := #[(.int .i64 (w64 (1 + x5))), (.int .i64 x10), (.int .i64 x15), (.int .i64 0), (.int .i64 0), (.slice none 0 0), (.bool false), (.int .i64 0), (.int .i64 0)]) sz41 rfl rfl rfl rfl rfl rfl ?_
    refine WL.conv (H := bl (pblk (ρ 14)) #[(.int .i64 (w64 (1 + x5))), (.int .i64 x10), (.int .i64 x15), (.int .i64 0), (.int .i64 0), (.slice none 0 0), (.bool false), (.int .i64 0), (.int .i64 0)] 41 :: H) (fun _ h => by revert ex14 h; generalize ρ 14 = v14; intro e14 h; subst e14; exact h) ?_
    refine WL.nil ?_
    exact hpost undef _ hc trivial _ (fun _ hd => by cases hd)
  rintro ρ J22 hJ23 ⟨_, _, _, _, _, _, _, _, _, _, _, _, _, _, k14, -⟩
  refine WX.sub (r := [(1, (.int .i64 p1)), (2, (.pointer (some ⟨g1, 0, none⟩))), (4, (.pointer (some ⟨g3, 0, none⟩))), (5, (.func (.func 19) #[] #[])), (6, (ρ 14))]) ?_ ⟨rfl, rfl, rfl, rfl, rfl, trivial⟩
  refine WX.is (H := bl g1 #[(.int .i64 p0.Kind), (.int .i64 p0.Path), (.int .i64 p0.Number), (.int .i64 p0.Of), (.int .i64 p0.From), (.slice a0_5 p0.Data.length c0_5), (.bool p0.Fin), (.int .i64 p0.Seen), (.int .i64 p0.Limit)] 41 :: bl (pblk (ρ 14)) #[(.int .i64 (w64 (1 + x5))), (.int .i64 x10), (.int .i64 x15), (.int .i64 0), (.int .i64 0), (.slice none 0 0), (.bool false), (.int .i64 0), (.int .i64 0)] 41 :: bl g3 #[(.int .i64 0), (.int .i64 0), (.int .i64 0), (.int .i64 0), (.int .i64 0), (.slice none 0 0), (.bool false), (.int .i64 0), (.int .i64 0)] 41 :: G) rfl ?_
  generalize ρ 14 = v14 at *; obtain ⟨q24, rfl⟩ := k14
  have hI := hI.trans hJ23
  replace hp0_5 := hp0_5.up hJ23
  refine WX.sub (r := [(1, (.int .i64 p1)), (2, (.pointer (some ⟨g1, 0, none⟩))), (4, (.pointer (some ⟨g3, 0, none⟩))), (5, (.func (.func 19) #[] #[])), (6, (.pointer (some ⟨q24, 0, none⟩)))]) ?_ ⟨rfl, rfl, rfl, rfl, rfl, trivial⟩
  refine WX.is (H := bl g1 #[(.int .i64 p0.Kind), (.int .i64 p0.Path), (.int .i64 p0.Number), (.int .i64 p0.Of), (.int .i64 p0.From), (.slice a0_5 p0.Data.length c0_5), (.bool p0.Fin), (.int .i64 p0.Seen), (.int .i64 p0.Limit)] 41 :: bl q24 #[(.int .i64 (w64 (1 + x5))), (.int .i64 x10), (.int .i64 x15), (.int .i64 0), (.int .i64 0), (.slice none 0 0), (.bool false), (.int .i64 0), (.int .i64 0)] 41 :: bl g3 #[(.int .i64 0), (.int .i64 0), (.int .i64 0), (.int .i64 0), (.int .i64 0), (.slice none 0 0), (.bool false), (.int .i64 0), (.int .i64 0)] 41 :: G) rfl ?_
  refine WX.then_ ?_
  refine WC.seq ?_
  refine WC.seq ?_
  refine WC.region ?_
  refine fa fl41_0 rfl rfl ?_
  refine ld 1 na3 rfl rfl rfl rfl ?_
  refine WL.next ?_
  obtain ⟨j81, hj81, h⟩ := bnd h
  refine WC.joinQ (σ := Int × Int × (List UInt8) × Bool × Int × Int × (Option Addr) × Nat) (fun (x72, x73, x74, x78, x79, x80, a75, c76) => [(1, (.int .i64 p1)), (2, (.pointer (some ⟨g1, 0, none⟩))), (4, (.pointer (some ⟨g3, 0, none⟩))), (5, (.func (.func 19) #[] #[])), (6, (.pointer (some ⟨q24, 0, none⟩)))]) (fun (x72, x73, x74, x78, x79, x80, a75, c76) => bl g1 #[(.int .i64 p0.Kind), (.int .i64 p0.Path), (.int .i64 p0.Number), (.int .i64 p0.Of), (.int .i64 p0.From), (.slice a0_5 p0.Data.length c0_5), (.bool p0.Fin), (.int .i64 p0.Seen), (.int .i64 p0.Limit)] 41 :: bl q24 #[(.int .i64 (w64 (1 + x5))), (.int .i64 x10), (.int .i64 x15), (.int .i64 x72), (.int .i64 x73), (.slice a75 x74.length c76), (.bool x78), (.int .i64 x79), (.int .i64 x80)] 41 :: bl g3 #[(.int .i64 0), (.int .i64 0), (.int .i64 0), (.int .i64 0), (.int .i64 0), (.slice none 0 0), (.bool false), (.int .i64 0), (.int .i64 0)] 41 :: G) (fun (x72, x73, x74, x78, x79, x80, a75, c76) J => (x72, x73, x74, x78, x79, x80) = j81 ∧ IV J (.slice a75 x74.length c76) x74) (fun kj81 => ?_) ?_
  · skip
    have lj81 := Mem.le.refl J22
    refine WC.block ?_
    refine WC.seq ?_
    refine WC.region ?_
    refine eq rfl rfl rfl ?_
    refine asg rfl rfl ?_
    refine WL.next ?_
    refine WC.ite rfl hj81 (fun k82 hj81 => ?_) (fun k82 hj81 => ?_)
    · skip
      refine WC.region ?_
      refine mv rfl rfl ?_
      refine fa fl41_3 rfl rfl ?_
      refine ld 0 na3 rfl rfl rfl rfl ?_
      obtain ⟨x83, e84, hj81⟩ := bnd hj81
      refine callv cl19 rfl rfl rfl (W19 e84) (fun _ J85 _ hJ86 q87 => ?_)
      have hI := hI.trans hJ86
      have lj81 := lj81.trans hJ86
      replace hp0_5 := hp0_5.up hJ86
      obtain ⟨rfl, rfl⟩ := q87
      refine fa fl41_3 rfl rfl ?_
      refine WL.front 1 ?_
      refine st (C' := #[(.int .i64 (w64 (1 + x5))), (.int .i64 x10), (.int .i64 x15), (.int .i64 x83), (.int .i64 0), (.slice none 0 0), (.bool false), (.int .i64 0), (.int .i64 0)]) sz3 rfl rfl rfl rfl rfl ?_
      refine WL.nil ?_
      refine WX.block_normal ?_
      refine WX.front 2 ?_
      refine WX.front 1 ?_
      refine WX.front 2 ?_
      exact (kj81 ⟨x83, 0, ([] : List UInt8), false, 0, 0, _, _⟩ _ lj81 ⟨Option.some.inj hj81, (IV.nil _ : IV _ _ ([] : List UInt8))⟩).sub ⟨rfl, rfl, rfl, rfl, rfl, trivial⟩
    refine WC.seq ?_
    refine WC.region ?_
    refine eq rfl rfl rfl ?_
    refine asg rfl rfl ?_
    refine WL.next ?_
    refine WC.ite rfl hj81 (fun k88 hj81 => ?_) (fun k88 hj81 => ?_)
    · skip
      refine WC.sub (r := [(1, (.int .i64 p1)), (2, (.pointer (some ⟨g1, 0, none⟩))), (4, (.pointer (some ⟨g3, 0, none⟩))), (5, (.func (.func 19) #[] #[])), (6, (.pointer (some ⟨q24, 0, none⟩)))]) ?_ ⟨rfl, rfl, rfl, rfl, rfl, trivial⟩
      obtain ⟨x89, e90, hj81⟩ := bnd hj81
      obtain ⟨x94, e95, hj81⟩ := bnd hj81
      refine WC.front 1 ?_
      refine WC.front 1 ?_
      refine WC.drawn mo (nthL [[], [], [1], [0, 1, 2], [], [4], [0, 1, 2, 3, 4, 5], [], [7], [0, 1, 2, 3], [0, 1, 2, 3, 4, 5, 6, 9], [0, 1, 2, 3, 4, 5, 6, 9, 10], [0, 1, 2, 3, 4, 5, 6, 9, 10, 11], [0, 1, 2, 3, 4, 5, 6, 7, 8, 9, 10, 11, 12], [0, 1, 2, 3, 4, 5, 6, 7, 8, 9, 10, 11, 12, 13]]) (nthL [[], [], [1], [0, 2], [], [4], [5], [], [7], [], [3, 9], [], [6, 11], [], [8, 13]]) (nthK [.val (.func (.func 19) #[] #[]), .val (.pointer (some ⟨g1, 4, none⟩)), .val (.int .i64 p0.From), .val (.int .i64 x89), .val (.pointer (some ⟨g1, 5, none⟩)), .val (.slice a0_5 p0.Data.length c0_5), .imm x94, .val (.pointer (some ⟨g1, 6, none⟩)), .val (.bool p0.Fin), .val (.pointer (some ⟨q24, 4, none⟩)), .any, .val (.pointer (some ⟨q24, 5, none⟩)), .any, .val (.pointer (some ⟨q24, 6, none⟩)), .any]) [⟨none, none, [2, 5, 8], [], fun _ => bl g1 #[(.int .i64 p0.Kind), (.int .i64 p0.Path), (.int .i64 p0.Number), (.int .i64 p0.Of), (.int .i64 p0.From), (.slice a0_5 p0.Data.length c0_5), (.bool p0.Fin), (.int .i64 p0.Seen), (.int .i64 p0.Limit)] 41⟩, ⟨none, (some 10), [], [], fun _ => bl q24 #[(.int .i64 (w64 (1 + x5))), (.int .i64 x10), (.int .i64 x15), (.int .i64 0), (.int .i64 0), (.slice none 0 0), (.bool false), (.int .i64 0), (.int .i64 0)] 41⟩, ⟨(some 10), (some 12), [], [], fun _ => bl q24 #[(.int .i64 (w64 (1 + x5))), (.int .i64 x10), (.int .i64 x15), (.int .i64 0), (.int .i64 x89), (.slice none 0 0), (.bool false), (.int .i64 0), (.int .i64 0)] 41⟩, ⟨(some 12), (some 14), [], [6], fun l => bl q24 #[(.int .i64 (w64 (1 + x5))), (.int .i64 x10), (.int .i64 x15), (.int .i64 0), (.int .i64 x89), (vget l 0), (.bool false), (.int .i64 0), (.int .i64 0)] 41⟩, ⟨(some 14), none, [], [6], fun l => bl q24 #[(.int .i64 (w64 (1 + x5))), (.int .i64 x10), (.int .i64 x15), (.int .i64 0), (.int .i64 x89), (vget l 0), (.bool p0.Fin), (.int .i64 0), (.int .i64 0)] 41⟩] (by kernel_rfl) (by kernel_rfl) (by kernel_rfl) (H := bl g3 #[(.int .i64 0), (.int .i64 0), (.int .i64 0), (.int .i64 0), (.int .i64 0), (.slice none 0 0), (.bool false), (.int .i64 0), (.int .i64 0)] 41 :: G) rfl ⟨?_, ?_, ?_, ?_, ?_, ?_, ?_, ?_, ?_, ?_, ?_, ?_, ?_, ?_, ?_, trivial⟩ ?_
      · intro Q ρ I1 H hI1 hk hpost
        have hc := Mem.le.refl I1
        refine mv rfl rfl ?_
        refine WL.nil ?_
        exact hpost _ _ hc rfl _ (fun _ hd => by obtain rfl := Option.some.inj hd; exact ⟨rfl, trivial⟩)
      · intro Q ρ I1 H hI1 hk hpost
        have hc := Mem.le.refl I1
        refine fa fl41_4 rfl rfl ?_
        refine WL.nil ?_
        exact hpost _ _ hc rfl _ (fun _ hd => by obtain rfl := Option.some.inj hd; exact ⟨rfl, trivial⟩)
      · intro Q ρ I1 H hI1 hk hpost
        obtain ⟨_, -⟩ := hk
        have hc := Mem.le.refl I1
        refine ld 0 na3 rfl rfl rfl rfl ?_
        refine WL.nil ?_
        exact hpost _ _ hc rfl _ (fun _ hd => by obtain rfl := Option.some.inj hd; exact ⟨rfl, trivial⟩)
      · intro Q ρ I1 H hI1 hk hpost
        obtain ⟨_, _, -⟩ := hk
        have hc := Mem.le.refl I1
        refine callv cl19 rfl rfl rfl (W19 e90) (fun _ J91 _ hJ92 q93 => ?_)
        have hc := hc.trans hJ92
        obtain ⟨rfl, rfl⟩ := q93
        refine WL.nil ?_
        exact hpost _ _ hc rfl _ (fun _ hd => by obtain rfl := Option.some.inj hd; exact ⟨rfl, trivial⟩)
      · intro Q ρ I1 H hI1 hk hpost
        have hc := Mem.le.refl I1
        refine fa fl41_5 rfl rfl ?_
        refine WL.nil ?_
        exact hpost _ _ hc rfl _ (fun _ hd => by obtain rfl := Option.some.inj hd; exact ⟨rfl, trivial⟩)
      · intro Q ρ I1 H hI1 hk hpost
        obtain ⟨_, -⟩ := hk
        have hc := Mem.le.refl I1
        refine ld 0 na22 rfl rfl rfl rfl ?_
        refine WL.nil ?_
        exact hpost _ _ hc rfl _ (fun _ hd => by obtain rfl := Option.some.inj hd; exact ⟨rfl, trivial⟩)
      · intro Q ρ I1 H hI1 hk hpost
        obtain ⟨_, -⟩ := hk
        replace hp0_5 := hp0_5.up hI1
        have hc := Mem.le.refl I1
        refine call cl15 rfl rfl (W15 e95 hp0_5) (fun _ J96 _ hJ97 q98 => ?_)
        have hc := hc.trans hJ97
        replace hp0_5 := hp0_5.up hJ97
        obtain ⟨a99, c100, rfl, rfl⟩ := q98
        refine WL.freeze (fun J102 hJ103 h104 => ?_)
        have hc := hc.trans hJ103
        replace hp0_5 := hp0_5.up hJ103
        refine WL.nil ?_
        exact hpost _ _ hc h104 _ (fun _ hd => by obtain rfl := Option.some.inj hd; exact ⟨rfl, trivial⟩)
      · intro Q ρ I1 H hI1 hk hpost
        have hc := Mem.le.refl I1
        refine fa fl41_6 rfl rfl ?_
        refine WL.nil ?_
        exact hpost _ _ hc rfl _ (fun _ hd => by obtain rfl := Option.some.inj hd; exact ⟨rfl, trivial⟩)
      · intro Q ρ I1 H hI1 hk hpost
        obtain ⟨_, -⟩ := hk
        have hc := Mem.le.refl I1
        refine ld 0 na4 rfl rfl rfl rfl ?_
        refine WL.nil ?_
        exact hpost _ _ hc rfl _ (fun _ hd => by obtain rfl := Option.some.inj hd; exact ⟨rfl, trivial⟩)
      · intro Q ρ I1 H hI1 hk hpost
        have hc := Mem.le.refl I1
        refine fa fl41_4 rfl rfl ?_
        refine WL.nil ?_
        exact hpost _ _ hc rfl _ (fun _ hd => by obtain rfl := Option.some.inj hd; exact ⟨rfl, trivial⟩)
      · intro Q ρ I1 H hI1 hk hpost
        obtain ⟨_, _, -⟩ := hk
        have hc := Mem.le.refl I1
        refine st (C' := #[(.int .i64 (w64 (1 + x5))), (.int .i64 x10), (.int .i64 x15), (.int .i64 0), (.int .i64 x89), (.slice none 0 0), (.bool false), (.int .i64 0), (.int .i64 0)]) sz3 rfl rfl rfl rfl rfl ?_
        refine WL.nil ?_
        exact hpost undef _ hc trivial _ (fun _ hd => by cases hd)
      · intro Q ρ I1 H hI1 hk hpost
        have hc := Mem.le.refl I1
        refine fa fl41_5 rfl rfl ?_
        refine WL.nil ?_
        exact hpost _ _ hc rfl _ (fun _ hd => by obtain rfl := Option.some.inj hd; exact ⟨rfl, trivial⟩)
      · intro Q ρ I1 H hI1 hk hpost
        obtain ⟨k6, _, -⟩ := hk
        have hc := Mem.le.refl I1
        refine WL.sub (r := [(38, (ρ 6)), (42, (.pointer (some ⟨q24, 5, none⟩)))]) ?_ ⟨rfl, rfl, trivial⟩
        refine WL.conv (H := bl q24 #[(.int .i64 (w64 (1 + x5))), (.int .i64 x10), (.int .i64 x15), (.int .i64 0), (.int .i64 x89), (.slice none 0 0), (.bool false), (.int .i64 0), (.int .i64 0)] 41 :: H) (fun _ h => h) ?_
        obtain ⟨a6_0, c6_0, ex6⟩ := k6.hd
        try rw [ex6]
        refine st (C' := #[(.int .i64 (w64 (1 + x5))), (.int .i64 x10), (.int .i64 x15), (.int .i64 0), (.int .i64 x89), (.slice a6_0 x94.length c6_0), (.bool false), (.int .i64 0), (.int .i64 0)]) sz22 rfl rfl rfl rfl rfl ?_
        refine WL.conv (H := bl q24 #[(.int .i64 (w64 (1 + x5))), (.int .i64 x10), (.int .i64 x15), (.int .i64 0), (.int .i64 x89), (ρ 6), (.bool false), (.int .i64 0), (.int .i64 0)] 41 :: H) (fun _ h => by revert ex6 h; generalize ρ 6 = v6; intro e6 h; subst e6; exact h) ?_
        refine WL.nil ?_
        exact hpost undef _ hc trivial _ (fun _ hd => by cases hd)
      · intro Q ρ I1 H hI1 hk hpost
        have hc := Mem.le.refl I1
        refine fa fl41_6 rfl rfl ?_
        refine WL.nil ?_
        exact hpost _ _ hc rfl _ (fun _ hd => by obtain rfl := Option.some.inj hd; exact ⟨rfl, trivial⟩)
      · intro Q ρ I1 H hI1 hk hpost
        obtain ⟨_, _, -⟩ := hk
        have hc := Mem.le.refl I1
        refine st (C' := #[(.int .i64 (w64 (1 + x5))), (.int .i64 x10), (.int .i64 x15), (.int .i64 0), (.int .i64 x89), (ρ 6), (.bool p0.Fin), (.int .i64 0), (.int .i64 0)]) sz4 rfl rfl rfl rfl rfl ?_
        refine WL.nil ?_
        exact hpost undef _ hc trivial _ (fun _ hd => by cases hd)
      rintro ρ J105 hJ106 ⟨_, _, _, _, _, _, k6, -⟩
      refine WX.sub (r := [(1, (.int .i64 p1)), (2, (.pointer (some ⟨g1, 0, none⟩))), (4, (.pointer (some ⟨g3, 0, none⟩))), (5, (.func (.func 19) #[] #[])), (6, (.pointer (some ⟨q24, 0, none⟩)))]) ?_ ⟨rfl, rfl, rfl, rfl, rfl, trivial⟩
      refine WX.is (H := bl g1 #[(.int .i64 p0.Kind), (.int .i64 p0.Path), (.int .i64 p0.Number), (.int .i64 p0.Of), (.int .i64 p0.From), (.slice a0_5 p0.Data.length c0_5), (.bool p0.Fin), (.int .i64 p0.Seen), (.int .i64 p0.Limit)] 41 :: bl q24 #[(.int .i64 (w64 (1 + x5))), (.int .i64 x10), (.int .i64 x15), (.int .i64 0), (.int .i64 x89), (ρ 6), (.bool p0.Fin), (.int .i64 0), (.int .i64 0)] 41 :: bl g3 #[(.int .i64 0), (.int .i64 0), (.int .i64 0), (.int .i64 0), (.int .i64 0), (.slice none 0 0), (.bool false), (.int .i64 0), (.int .i64 0)] 41 :: G) rfl ?_
      have hI := hI.trans hJ106
      have lj81 := lj81.trans hJ106
      replace hp0_5 := hp0_5.up hJ106
      have h110 : IV J105 (ρ 6) x94 := k6; clear k6
      generalize ρ 6 = uv107 at *; obtain ⟨a108, c109, rfl⟩ := h110.hd
      refine WX.block_normal ?_
      refine WX.front 2 ?_
      refine WX.front 2 ?_
      refine WX.front 2 ?_
      exact (kj81 ⟨0, x89, x94, p0.Fin, 0, 0, _, _⟩ _ lj81 ⟨Option.some.inj hj81, h110⟩).sub ⟨rfl, rfl, rfl, rfl, rfl, trivial⟩
    refine WC.seq ?_
    refine WC.region ?_
    refine eq rfl rfl rfl ?_
    refine asg rfl rfl ?_
    refine WL.next ?_
    refine WC.ite rfl hj81 (fun k111 hj81 => ?_) (fun k111 hj81 => ?_)
    · skip
      refine WC.sub (r := [(1, (.int .i64 p1)), (2, (.pointer (some ⟨g1, 0, none⟩))), (4, (.pointer (some ⟨g3, 0, none⟩))), (5, (.func (.func 19) #[] #[])), (6, (.pointer (some ⟨q24, 0, none⟩)))]) ?_ ⟨rfl, rfl, rfl, rfl, rfl, trivial⟩
      obtain ⟨x112, e113, hj81⟩ := bnd hj81
      obtain ⟨x117, e118, hj81⟩ := bnd hj81
      obtain ⟨x122, e123, hj81⟩ := bnd hj81
      refine WC.front 1 ?_
      refine WC.front 1 ?_
      refine WC.drawn mo (nthL [[], [], [1], [0, 1, 2], [], [], [5], [0, 1, 2, 3, 4, 5, 6], [], [], [9], [0, 1, 2, 3, 4, 5, 6, 7, 8, 9, 10], [0, 1, 2, 3], [0, 1, 2, 3, 4, 5, 6, 7, 8, 9, 10, 11, 12], [0, 1, 2, 3, 4, 5, 6, 7, 8, 9, 10, 11, 12, 13], [0, 1, 2, 3, 4, 5, 6, 7, 8, 9, 10, 11, 12, 13, 14], [0, 1, 2, 3, 4, 5, 6, 7, 8, 9, 10, 11, 12, 13, 14, 15], [0, 1, 2, 3, 4, 5, 6, 7, 8, 9, 10, 11, 12, 13, 14, 15, 16]]) (nthL [[], [], [1], [0, 2], [], [], [5], [4, 6], [], [], [9], [8, 10], [], [3, 12], [], [7, 14], [], [11, 16]]) (nthK [.val (.func (.func 19) #[] #[]), .val (.pointer (some ⟨g1, 3, none⟩)), .val (.int .i64 p0.Of), .val (.int .i64 x112), .val (.func (.func 19) #[] #[]), .val (.pointer (some ⟨g1, 7, none⟩)), .val (.int .i64 p0.Seen), .val (.int .i64 x117), .val (.func (.func 19) #[] #[]), .val (.pointer (some ⟨g1, 8, none⟩)), .val (.int .i64 p0.Limit), .val (.int .i64 x122), .val (.pointer (some ⟨q24, 3, none⟩)), .any, .val (.pointer (some ⟨q24, 7, none⟩)), .any, .val (.pointer (some ⟨q24, 8, none⟩)), .any]) [⟨none, none, [2, 6, 10], [], fun _ => bl g1 #[(.int .i64 p0.Kind), (.int .i64 p0.Path), (.int .i64 p0.Number), (.int .i64 p0.Of), (.int .i64 p0.From), (.slice a0_5 p0.Data.length c0_5), (.bool p0.Fin), (.int .i64 p0.Seen), (.int .i64 p0.Limit)] 41⟩, ⟨none, (some 13), [], [], fun _ => bl q24 #[(.int .i64 (w64 (1 + x5))), (.int .i64 x10), (.int .i64 x15), (.int .i64 0), (.int .i64 0), (.slice none 0 0), (.bool false), (.int .i64 0), (.int .i64 0)] 41⟩, ⟨(some 13), (some 15), [], [], fun _ => bl q24 #[(.int .i64 (w64 (1 + x5))), (.int .i64 x10), (.int .i64 x15), (.int .i64 x112), (.int .i64 0), (.slice none 0 0), (.bool false), (.int .i64 0), (.int .i64 0)] 41⟩, ⟨(some 15), (some 17), [], [], fun _ => bl q24 #[(.int .i64 (w64 (1 + x5))), (.int .i64 x10), (.int .i64 x15), (.int .i64 x112), (.int .i64 0), (.slice none 0 0), (.bool false), (.int .i64 x117), (.int .i64 0)] 41⟩, ⟨(some 17), none, [], [], fun _ => bl q24 #[(.int .i64 (w64 (1 + x5))), (.int .i64 x10), (.int .i64 x15), (.int .i64 x112), (.int .i64 0), (.slice none 0 0), (.bool false), (.int .i64 x117), (.int .i64 x122)] 41⟩] (by kernel_rfl) (by kernel_rfl) (by kernel_rfl) (H := bl g3 #[(.int .i64 0), (.int .i64 0), (.int .i64 0), (.int .i64 0), (.int .i64 0), (.slice none 0 0), (.bool false), (.int .i64 0), (.int .i64 0)] 41 :: G) rfl ⟨?_, ?_, ?_, ?_, ?_, ?_, ?_, ?_, ?_, ?_, ?_, ?_, ?_, ?_, ?_, ?_, ?_, ?_, trivial⟩ ?_
      · intro Q ρ I1 H hI1 hk hpost
        have hc := Mem.le.refl I1
        refine mv rfl rfl ?_
        refine WL.nil ?_
        exact hpost _ _ hc rfl _ (fun _ hd => by obtain rfl := Option.some.inj hd; exact ⟨rfl, trivial⟩)
      · intro Q ρ I1 H hI1 hk hpost
        have hc := Mem.le.refl I1
        refine fa fl41_3 rfl rfl ?_
        refine WL.nil ?_
        exact hpost _ _ hc rfl _ (fun _ hd => by obtain rfl := Option.some.inj hd; exact ⟨rfl, trivial⟩)
      · intro Q ρ I1 H hI1 hk hpost
        obtain ⟨_, -⟩ := hk
        have hc := Mem.le.refl I1
        refine ld 0 na3 rfl rfl rfl rfl ?_
        refine WL.nil ?_
        exact hpost _ _ hc rfl _ (fun _ hd => by obtain rfl := Option.some.inj hd; exact ⟨rfl, trivial⟩)
      · intro Q ρ I1 H hI1 hk hpost
        obtain ⟨_, _, -⟩ := hk
        have hc := Mem.le.refl I1
        refine callv cl19 rfl rfl rfl (W19 e113) (fun _ J114 _ hJ115 q116 => ?_)
        have hc := hc.trans hJ115
        obtain ⟨rfl, rfl⟩ := q116
        refine WL.nil ?_
        exact hpost _ _ hc rfl _ (fun _ hd => by obtain rfl := Option.some.inj hd; exact ⟨rfl, trivial⟩)
      · intro Q ρ I1 H hI1 hk hpost
        have hc := Mem.le.refl I1
        refine mv rfl rfl ?_
        refine WL.nil ?_
        exact hpost _ _ hc rfl _ (fun _ hd => by obtain rfl := Option.some.inj hd; exact ⟨rfl, trivial⟩)
      · intro Q ρ I1 H hI1 hk hpost
        have hc := Mem.le.refl I1
        refine fa fl41_7 rfl rfl ?_
        refine WL.nil ?_
        exact hpost _ _ hc rfl _ (fun _ hd => by obtain rfl := Option.some.inj hd; exact ⟨rfl, trivial⟩)
      · intro Q ρ I1 H hI1 hk hpost
        obtain ⟨_, -⟩ := hk
        have hc := Mem.le.refl I1
        refine ld 0 na3 rfl rfl rfl rfl ?_
        refine WL.nil ?_
        exact hpost _ _ hc rfl _ (fun _ hd => by obtain rfl := Option.some.inj hd; exact ⟨rfl, trivial⟩)
      · intro Q ρ I1 H hI1 hk hpost
        obtain ⟨_, _, -⟩ := hk
        have hc := Mem.le.refl I1
        refine callv cl19 rfl rfl rfl (W19 e118) (fun _ J119 _ hJ120 q121 => ?_)
        have hc := hc.trans hJ120
        obtain ⟨rfl, rfl⟩ := q121
        refine WL.nil ?_
        exact hpost _ _ hc rfl _ (fun _ hd => by obtain rfl := Option.some.inj hd; exact ⟨rfl, trivial⟩)
      · intro Q ρ I1 H hI1 hk hpost
        have hc := Mem.le.refl I1
        refine mv rfl rfl ?_
        refine WL.nil ?_
        exact hpost _ _ hc rfl _ (fun _ hd => by obtain rfl := Option.some.inj hd; exact ⟨rfl, trivial⟩)
      · intro Q ρ I1 H hI1 hk hpost
        have hc := Mem.le.refl I1
        refine fa fl41_8 rfl rfl ?_
        refine WL.nil ?_
        exact hpost _ _ hc rfl _ (fun _ hd => by obtain rfl := Option.some.inj hd; exact ⟨rfl, trivial⟩)
      · intro Q ρ I1 H hI1 hk hpost
        obtain ⟨_, -⟩ := hk
        have hc := Mem.le.refl I1
        refine ld 0 na3 rfl rfl rfl rfl ?_
        refine WL.nil ?_
        exact hpost _ _ hc rfl _ (fun _ hd => by obtain rfl := Option.some.inj hd; exact ⟨rfl, trivial⟩)
      · intro Q ρ I1 H hI1 hk hpost
        obtain ⟨_, _, -⟩ := hk
        have hc := Mem.le.refl I1
        refine callv cl19 rfl rfl rfl (W19 e123) (fun _ J124 _ hJ125 q126 => ?_)
        have hc := hc.trans hJ125
        obtain ⟨rfl, rfl⟩ := q126
        refine WL.nil ?_
        exact hpost _ _ hc rfl _ (fun _ hd => by obtain rfl := Option.some.inj hd; exact ⟨rfl, trivial⟩)
      · intro Q ρ I1 H hI1 hk hpost
        have hc := Mem.le.refl I1
        refine fa fl41_3 rfl rfl ?_
        refine WL.nil ?_
        exact hpost _ _ hc rfl _ (fun _ hd => by obtain rfl := Option.some.inj hd; exact ⟨rfl, trivial⟩)
      · intro Q ρ I1 H hI1 hk hpost
        obtain ⟨_, _, -⟩ := hk
        have hc := Mem.le.refl I1
        refine st (C' := #[(.int .i64 (w64 (1 + x5))), (.int .i64 x10), (.int .i64 x15), (.int .i64 x112), (.int .i64 0), (.slice none 0 0), (.bool false), (.int .i64 0), (.int .i64 0)]) sz3 rfl rfl rfl rfl rfl ?_
        refine WL.nil ?_
        exact hpost undef _ hc trivial _ (fun _ hd => by cases hd)
      · intro Q ρ I1 H hI1 hk hpost
        have hc := Mem.le.refl I1
        refine fa fl41_7 rfl rfl ?_
        refine WL.nil ?_
        exact hpost _ _ hc rfl _ (fun _ hd => by obtain rfl := Option.some.inj hd; exact ⟨rfl, trivial⟩)
      · intro Q ρ I1 H hI1 hk hpost
        obtain ⟨_, _, -⟩ := hk
        have hc := Mem.le.refl I1
        refine st (C' := #[(.int .i64 (w64 (1 + x5))), (.int .i64 x10), (.int .i64 x15), (.int .i64 x112), (.int .i64 0), (.slice none 0 0), (.bool false), (.int .i64 x117), (.int .i64 0)]) sz3 rfl rfl rfl rfl rfl ?_
        refine WL.nil ?_
        exact hpost undef _ hc trivial _ (fun _ hd => by cases hd)
      · intro Q ρ I1 H hI1 hk hpost
        have hc := Mem.le.refl I1
        refine fa fl41_8 rfl rfl ?_
        refine WL.nil ?_
        exact hpost _ _ hc rfl _ (fun _ hd => by obtain rfl := Option.some.inj hd; exact ⟨rfl, trivial⟩)
      · intro Q ρ I1 H hI1 hk hpost
        obtain ⟨_, _, -⟩ := hk
        have hc := Mem.le.refl I1
        refine st (C' := #[(.int .i64 (w64 (1 + x5))), (.int .i64 x10), (.int .i64 x15), (.int .i64 x112), (.int .i64 0), (.slice none 0 0), (.bool false), (.int .i64 x117), (.int .i64 x122)]) sz3 rfl rfl rfl rfl rfl ?_
        refine WL.nil ?_
        exact hpost undef _ hc trivial _ (fun _ hd => by cases hd)
      rintro ρ J127 hJ128 -
      refine WX.sub (r := [(1, (.int .i64 p1)), (2, (.pointer (some ⟨g1, 0, none⟩))), (4, (.pointer (some ⟨g3, 0, none⟩))), (5, (.func (.func 19) #[] #[])), (6, (.pointer (some ⟨q24, 0, none⟩)))]) ?_ ⟨rfl, rfl, rfl, rfl, rfl, trivial⟩
      refine WX.is (H := bl g1 #[(.int .i64 p0.Kind), (.int .i64 p0.Path), (.int .i64 p0.Number), (.int .i64 p0.Of), (.int .i64 p0.From), (.slice a0_5 p0.Data.length c0_5), (.bool p0.Fin), (.int .i64 p0.Seen), (.int .i64 p0.Limit)] 41 :: bl q24 #[(.int .i64 (w64 (1 + x5))), (.int .i64 x10), (.int .i64 x15), (.int .i64 x112), (.int .i64 0), (.slice none 0 0), (.bool false), (.int .i64 x117), (.int .i64 x122)] 41 :: bl g3 #[(.int .i64 0), (.int .i64 0), (.int .i64 0), (.int .i64 0), (.int .i64 0), (.slice none 0 0), (.bool false), (.int .i64 0), (.int .i64 0)] 41 :: G) rfl ?_
      have hI := hI.trans hJ128
      have lj81 := lj81.trans hJ128
      replace hp0_5 := hp0_5.up hJ128
      refine WX.block_normal ?_
      refine WX.front 2 ?_
      refine WX.front 2 ?_
      refine WX.front 2 ?_
      exact (kj81 ⟨x112, 0, ([] : List UInt8), false, x117, x122, _, _⟩ _ lj81 ⟨Option.some.inj hj81, (IV.nil _ : IV _ _ ([] : List UInt8))⟩).sub ⟨rfl, rfl, rfl, rfl, rfl, trivial⟩
    refine WC.skip ?_
    refine WX.block_normal ?_
    refine WX.front 2 ?_
    refine WX.front 2 ?_
    refine WX.front 2 ?_
    exact (kj81 ⟨0, 0, ([] : List UInt8), false, 0, 0, _, _⟩ _ lj81 ⟨Option.some.inj hj81, (IV.nil _ : IV _ _ ([] : List UInt8))⟩).sub ⟨rfl, rfl, rfl, rfl, rfl, trivial⟩
  rintro ⟨x72, x73, x74, x78, x79, x80, a75, c76⟩ J129 hJ130 ⟨rfl, h77⟩
  have hI := hI.trans hJ130
  replace hp0_5 := hp0_5.up hJ130
  refine WX.then_ ?_
  refine WC.seq ?_
  refine WC.seq ?_
  refine WC.region ?_
  refine mv rfl rfl ?_
  refine mv rfl rfl ?_
  obtain ⟨x131, e132, h⟩ := bnd h
  refine callv cl19 rfl rfl rfl (W19 e132) (fun _ J133 _ hJ134 q135 => ?_)
  have hI := hI.trans hJ134
  replace hp0_5 := hp0_5.up hJ134; replace h77 := h77.up hJ134
  obtain ⟨rfl, rfl⟩ := q135
  refine WL.next ?_
  refine WC.block ?_
  refine WC.seq ?_
  refine WC.region ?_
  refine eq rfl rfl rfl ?_
  refine asg rfl rfl ?_
  refine WL.next ?_
  refine WC.ite rfl h (fun k136 h => ?_) (fun k136 h => ?_)
  · skip
    refine WC.seq ?_
    refine WC.region ?_
    refine lda 0 ya41 rfl rfl rfl rfl rfl ?_
    obtain ⟨x137, e138, h⟩ := bnd h
    refine call cl65 rfl rfl (W65 e138 hp0_5) (fun _ J139 _ hJ140 q141 => ?_)
    have hI := hI.trans hJ140
    replace hp0_5 := hp0_5.up hJ140; replace h77 := h77.up hJ140
    obtain ⟨a142, c143, rfl, h144, rfl⟩ := q141
    refine WL.front 2 ?_
    refine sta (C' := #[(.int .i64 x137.Kind), (.int .i64 x137.Path), (.int .i64 x137.Number), (.int .i64 x137.Of), (.int .i64 x137.From), (.slice a142 x137.Data.length c143), (.bool x137.Fin), (.int .i64 x137.Seen), (.int .i64 x137.Limit)]) sz41 rfl rfl rfl rfl rfl rfl ?_
    refine WL.del 1 ?_
    refine WL.del 1 ?_
    refine WL.next ?_
    refine WC.ret ?_
    refine WX.block_ret ?_
    refine WX.then_ret ?_
    cases h
    exact retC1x Try.results34 (fun a w ha hw => RC.cellA ha hw 0 rfl ya41 rfl rfl) (fun w hw => hw |>.del 0) hI ⟨_, _, rfl, h144, rfl⟩
  refine WC.seq ?_
  refine WC.region ?_
  refine eq rfl rfl rfl ?_
  refine asg rfl rfl ?_
  refine WL.next ?_
  refine WC.ite rfl h (fun k145 h => ?_) (fun k145 h => ?_)
  · skip
    refine WC.region ?_
    refine fa fl41_0 rfl rfl ?_
    refine ld 0 na3 rfl rfl rfl rfl ?_
    refine fa fl41_0 rfl rfl ?_
    refine WL.front 1 ?_
    refine st (C' := #[(.int .i64 p0.Kind), (.int .i64 x10), (.int .i64 x15), (.int .i64 x72), (.int .i64 x73), (.slice a75 x74.length c76), (.bool x78), (.int .i64 x79), (.int .i64 x80)]) sz3 rfl rfl rfl rfl rfl ?_
    refine WL.del 1 ?_
    refine WL.nil ?_
    refine WX.block_normal ?_
    refine WX.then_ ?_
    refine WC.seq ?_
    refine WC.region ?_
    refine lda 0 ya41 rfl rfl rfl rfl rfl ?_
    refine WL.front 1 ?_
    refine sta (C' := #[(.int .i64 p0.Kind), (.int .i64 x10), (.int .i64 x15), (.int .i64 x72), (.int .i64 x73), (.slice a75 x74.length c76), (.bool x78), (.int .i64 x79), (.int .i64 x80)]) sz41 rfl rfl rfl rfl rfl rfl ?_
    refine WL.del 1 ?_
    refine WL.next ?_
    refine WC.ret ?_
    cases h
    exact retC1x Try.results34 (fun a w ha hw => RC.cellA ha hw 0 rfl ya41 rfl rfl) (fun w hw => hw |>.del 0) hI ⟨_, _, rfl, h77, rfl⟩
  refine WC.seq ?_
  refine WC.region ?_
  refine eq rfl rfl rfl ?_
  refine asg rfl rfl ?_
  refine WL.next ?_
  refine WC.ite rfl h (fun k146 h => ?_) (fun k146 h => ?_)
  · skip
    refine WC.region ?_
    refine fa fl41_1 rfl rfl ?_
    refine ld 0 na3 rfl rfl rfl rfl ?_
    refine fa fl41_1 rfl rfl ?_
    refine WL.front 1 ?_
    refine st (C' := #[(.int .i64 (w64 (1 + x5))), (.int .i64 p0.Path), (.int .i64 x15), (.int .i64 x72), (.int .i64 x73), (.slice a75 x74.length c76), (.bool x78), (.int .i64 x79), (.int .i64 x80)]) sz3 rfl rfl rfl rfl rfl ?_
    refine WL.del 1 ?_
    refine WL.nil ?_
    refine WX.block_normal ?_
    refine WX.then_ ?_
    refine WC.seq ?_
    refine WC.region ?_
    refine lda 0 ya41 rfl rfl rfl rfl rfl ?_
    refine WL.front 1 ?_
    refine sta (C' := #[(.int .i64 (w64 (1 + x5))), (.int .i64 p0.Path), (.int .i64 x15), (.int .i64 x72), (.int .i64 x73), (.slice a75 x74.length c76), (.bool x78), (.int .i64 x79), (.int .i64 x80)]) sz41 rfl rfl rfl rfl rfl rfl ?_
    refine WL.del 1 ?_
    refine WL.next ?_
    refine WC.ret ?_
    cases h
    exact retC1x Try.results34 (fun a w ha hw => RC.cellA ha hw 0 rfl ya41 rfl rfl) (fun w hw => hw |>.del 0) hI ⟨_, _, rfl, h77, rfl⟩
  refine WC.seq ?_
  refine WC.region ?_
  refine eq rfl rfl rfl ?_
  refine asg rfl rfl ?_
  refine WL.next ?_
  refine WC.ite rfl h (fun k147 h => ?_) (fun k147 h => ?_)
  · skip
    refine WC.region ?_
    refine fa fl41_2 rfl rfl ?_
    refine ld 0 na3 rfl rfl rfl rfl ?_
    refine fa fl41_2 rfl rfl ?_
    refine WL.front 1 ?_
    refine st (C' := #[(.int .i64 (w64 (1 + x5))), (.int .i64 x10), (.int .i64 p0.Number), (.int .i64 x72), (.int .i64 x73), (.slice a75 x74.length c76), (.bool x78), (.int .i64 x79), (.int .i64 x80)]) sz3 rfl rfl rfl rfl rfl ?_
    refine WL.del 1 ?_
    refine WL.nil ?_
    refine WX.block_normal ?_
    refine WX.then_ ?_
    refine WC.seq ?_
    refine WC.region ?_
    refine lda 0 ya41 rfl rfl rfl rfl rfl ?_
    refine WL.front 1 ?_
    refine sta (C' := #[(.int .i64 (w64 (1 + x5))), (.int .i64 x10), (.int .i64 p0.Number), (.int .i64 x72), (.int .i64 x73), (.slice a75 x74.length c76), (.bool x78), (.int .i64 x79), (.int .i64 x80)]) sz41 rfl rfl rfl rfl rfl rfl ?_
    refine WL.del 1 ?_
    refine WL.next ?_
    refine WC.ret ?_
    cases h
    exact retC1x Try.results34 (fun a w ha hw => RC.cellA ha hw 0 rfl ya41 rfl rfl) (fun w hw => hw |>.del 0) hI ⟨_, _, rfl, h77, rfl⟩
  refine WC.seq ?_
  refine WC.region ?_
  refine eq rfl rfl rfl ?_
  refine asg rfl rfl ?_
  refine WL.next ?_
  refine WC.ite rfl h (fun k148 h => ?_) (fun k148 h => ?_)
  · skip
    refine WC.region ?_
    refine fa fl41_3 rfl rfl ?_
    refine ld 0 na3 rfl rfl rfl rfl ?_
    refine fa fl41_3 rfl rfl ?_
    refine WL.front 1 ?_
    refine st (C' := #[(.int .i64 (w64 (1 + x5))), (.int .i64 x10), (.int .i64 x15), (.int .i64 p0.Of), (.int .i64 x73), (.slice a75 x74.length c76), (.bool x78), (.int .i64 x79), (.int .i64 x80)]) sz3 rfl rfl rfl rfl rfl ?_
    refine WL.del 1 ?_
    refine WL.nil ?_
    refine WX.block_normal ?_
    refine WX.then_ ?_
    refine WC.seq ?_
    refine WC.region ?_
    refine lda 0 ya41 rfl rfl rfl rfl rfl ?_
    refine WL.front 1 ?_
    refine sta (C' := #[(.int .i64 (w64 (1 + x5))), (.int .i64 x10), (.int .i64 x15), (.int .i64 p0.Of), (.int .i64 x73), (.slice a75 x74.length c76), (.bool x78), (.int .i64 x79), (.int .i64 x80)]) sz41 rfl rfl rfl rfl rfl rfl ?_
    refine WL.del 1 ?_
    refine WL.next ?_
    refine WC.ret ?_
    cases h
    exact retC1x Try.results34 (fun a w ha hw => RC.cellA ha hw 0 rfl ya41 rfl rfl) (fun w hw => hw |>.del 0) hI ⟨_, _, rfl, h77, rfl⟩
  refine WC.seq ?_
  refine WC.region ?_
  refine eq rfl rfl rfl ?_
  refine asg rfl rfl ?_
  refine WL.next ?_
  refine WC.ite rfl h (fun k149 h => ?_) (fun k149 h => ?_)
  · skip
    refine WC.region ?_
    refine fa fl41_4 rfl rfl ?_
    refine ld 0 na3 rfl rfl rfl rfl ?_
    refine fa fl41_4 rfl rfl ?_
    refine WL.front 1 ?_
    refine st (C' := #[(.int .i64 (w64 (1 + x5))), (.int .i64 x10), (.int .i64 x15), (.int .i64 x72), (.int .i64 p0.From), (.slice a75 x74.length c76), (.bool x78), (.int .i64 x79), (.int .i64 x80)]) sz3 rfl rfl rfl rfl rfl ?_
    refine WL.del 1 ?_
    refine WL.nil ?_
    refine WX.block_normal ?_
    refine WX.then_ ?_
    refine WC.seq ?_
    refine WC.region ?_
    refine lda 0 ya41 rfl rfl rfl rfl rfl ?_
    refine WL.front 1 ?_
    refine sta (C' := #[(.int .i64 (w64 (1 + x5))), (.int .i64 x10), (.int .i64 x15), (.int .i64 x72), (.int .i64 p0.From), (.slice a75 x74.length c76), (.bool x78), (.int .i64 x79), (.int .i64 x80)]) sz41 rfl rfl rfl rfl rfl rfl ?_
    refine WL.del 1 ?_
    refine WL.next ?_
    refine WC.ret ?_
    cases h
    exact retC1x Try.results34 (fun a w ha hw => RC.cellA ha hw 0 rfl ya41 rfl rfl) (fun w hw => hw |>.del 0) hI ⟨_, _, rfl, h77, rfl⟩
  refine WC.seq ?_
  refine WC.region ?_
  refine eq rfl rfl rfl ?_
  refine asg rfl rfl ?_
  refine WL.next ?_
  refine WC.ite rfl h (fun k150 h => ?_) (fun k150 h => ?_)
  · skip
    refine WC.region ?_
    refine fa fl41_5 rfl rfl ?_
    refine ld 0 na22 rfl rfl rfl rfl ?_
    obtain ⟨x151, e152, h⟩ := bnd h
    refine call cl15 rfl rfl (W15 e152 hp0_5) (fun _ J153 _ hJ154 q155 => ?_)
    have hI := hI.trans hJ154
    replace hp0_5 := hp0_5.up hJ154; replace h77 := h77.up hJ154
    obtain ⟨a156, c157, rfl, rfl⟩ := q155
    refine fa fl41_5 rfl rfl ?_
    refine WL.front 2 ?_
    refine st (C' := #[(.int .i64 (w64 (1 + x5))), (.int .i64 x10), (.int .i64 x15), (.int .i64 x72), (.int .i64 x73), (.slice a156 x151.length c157), (.bool x78), (.int .i64 x79), (.int .i64 x80)]) sz22 rfl rfl rfl rfl rfl ?_
    refine WL.del 2 ?_
    refine WL.nil ?_
    refine WX.block_normal ?_
    refine WX.then_ ?_
    refine WC.seq ?_
    refine WC.region ?_
    refine lda 0 ya41 rfl rfl rfl rfl rfl ?_
    refine WL.front 2 ?_
    refine sta (C' := #[(.int .i64 (w64 (1 + x5))), (.int .i64 x10), (.int .i64 x15), (.int .i64 x72), (.int .i64 x73), (.slice a156 x151.length c157), (.bool x78), (.int .i64 x79), (.int .i64 x80)]) sz41 rfl rfl rfl rfl rfl rfl ?_
    refine WL.del 1 ?_
    refine WL.next ?_
    refine WC.ret ?_
    refine WX.front 1 ?_
    refine WX.freeze (fun J159 hJ160 h161 => ?_)
    have hI := hI.trans hJ160
    cases h
    exact retC1x Try.results34 (fun a w ha hw => RC.cellA ha hw 0 rfl ya41 rfl rfl) (fun w hw => hw |>.del 0) hI ⟨_, _, rfl, h161, rfl⟩
  refine WC.seq ?_
  refine WC.region ?_
  refine eq rfl rfl rfl ?_
  refine asg rfl rfl ?_
  refine WL.next ?_
  refine WC.ite rfl h (fun k162 h => ?_) (fun k162 h => ?_)
  · skip
    refine WC.region ?_
    refine fa fl41_6 rfl rfl ?_
    refine WL.front 1 ?_
    refine st (C' := #[(.int .i64 (w64 (1 + x5))), (.int .i64 x10), (.int .i64 x15), (.int .i64 x72), (.int .i64 x73), (.slice a75 x74.length c76), (.bool true), (.int .i64 x79), (.int .i64 x80)]) sz4 rfl rfl rfl rfl rfl ?_
    refine WL.del 1 ?_
    refine WL.nil ?_
    refine WX.block_normal ?_
    refine WX.then_ ?_
    refine WC.seq ?_
    refine WC.region ?_
    refine lda 0 ya41 rfl rfl rfl rfl rfl ?_
    refine WL.front 1 ?_
    refine sta (C' := #[(.int .i64 (w64 (1 + x5))), (.int .i64 x10), (.int .i64 x15), (.int .i64 x72), (.int .i64 x73), (.slice a75 x74.length c76), (.bool true), (.int .i64 x79), (.int .i64 x80)]) sz41 rfl rfl rfl rfl rfl rfl ?_
    refine WL.del 1 ?_
    refine WL.next ?_
    refine WC.ret ?_
    cases h
    exact retC1x Try.results34 (fun a w ha hw => RC.cellA ha hw 0 rfl ya41 rfl rfl) (fun w hw => hw |>.del 0) hI ⟨_, _, rfl, h77, rfl⟩
  refine WC.seq ?_
  refine WC.region ?_
  refine eq rfl rfl rfl ?_
  refine asg rfl rfl ?_
  refine WL.next ?_
  refine WC.ite rfl h (fun k163 h => ?_) (fun k163 h => ?_)
  · skip
    refine WC.region ?_
    refine fa fl41_7 rfl rfl ?_
    refine ld 0 na3 rfl rfl rfl rfl ?_
    refine fa fl41_7 rfl rfl ?_
    refine WL.front 1 ?_
    refine st (C' := #[(.int .i64 (w64 (1 + x5))), (.int .i64 x10), (.int .i64 x15), (.int .i64 x72), (.int .i64 x73), (.slice a75 x74.length c76), (.bool x78), (.int .i64 p0.Seen), (.int .i64 x80)]) sz3 rfl rfl rfl rfl rfl ?_
    refine WL.del 1 ?_
    refine WL.nil ?_
    refine WX.block_normal ?_
    refine WX.then_ ?_
    refine WC.seq ?_
    refine WC.region ?_
    refine lda 0 ya41 rfl rfl rfl rfl rfl ?_
    refine WL.front 1 ?_
    refine sta (C' := #[(.int .i64 (w64 (1 + x5))), (.int .i64 x10), (.int .i64 x15), (.int .i64 x72), (.int .i64 x73), (.slice a75 x74.length c76), (.bool x78), (.int .i64 p0.Seen), (.int .i64 x80)]) sz41 rfl rfl rfl rfl rfl rfl ?_
    refine WL.del 1 ?_
    refine WL.next ?_
    refine WC.ret ?_
    cases h
    exact retC1x Try.results34 (fun a w ha hw => RC.cellA ha hw 0 rfl ya41 rfl rfl) (fun w hw => hw |>.del 0) hI ⟨_, _, rfl, h77, rfl⟩
  refine WC.seq ?_
  refine WC.region ?_
  refine eq rfl rfl rfl ?_
  refine asg rfl rfl ?_
  refine WL.next ?_
  refine WC.ite rfl h (fun k164 h => ?_) (fun k164 h => ?_)
  · skip
    refine WC.region ?_
    refine fa fl41_8 rfl rfl ?_
    refine ld 0 na3 rfl rfl rfl rfl ?_
    refine fa fl41_8 rfl rfl ?_
    refine WL.front 1 ?_
    refine st (C' := #[(.int .i64 (w64 (1 + x5))), (.int .i64 x10), (.int .i64 x15), (.int .i64 x72), (.int .i64 x73), (.slice a75 x74.length c76), (.bool x78), (.int .i64 x79), (.int .i64 p0.Limit)]) sz3 rfl rfl rfl rfl rfl ?_
    refine WL.del 1 ?_
    refine WL.nil ?_
    refine WX.block_normal ?_
    refine WX.then_ ?_
    refine WC.seq ?_
    refine WC.region ?_
    refine lda 0 ya41 rfl rfl rfl rfl rfl ?_
    refine WL.front 1 ?_
    refine sta (C' := #[(.int .i64 (w64 (1 + x5))), (.int .i64 x10), (.int .i64 x15), (.int .i64 x72), (.int .i64 x73), (.slice a75 x74.length c76), (.bool x78), (.int .i64 x79), (.int .i64 p0.Limit)]) sz41 rfl rfl rfl rfl rfl rfl ?_
    refine WL.del 1 ?_
    refine WL.next ?_
    refine WC.ret ?_
    cases h
    exact retC1x Try.results34 (fun a w ha hw => RC.cellA ha hw 0 rfl ya41 rfl rfl) (fun w hw => hw |>.del 0) hI ⟨_, _, rfl, h77, rfl⟩
  refine WC.seq ?_
  refine WC.region ?_
  refine eq rfl rfl rfl ?_
  refine asg rfl rfl ?_
  refine WL.next ?_
  refine WC.ite rfl h (fun k165 h => ?_) (fun k165 h => ?_)
  · skip
    refine WC.sub (r := [(2, (.pointer (some ⟨g1, 0, none⟩))), (4, (.pointer (some ⟨g3, 0, none⟩))), (5, (.func (.func 19) #[] #[])), (6, (.pointer (some ⟨q24, 0, none⟩)))]) ?_ ⟨rfl, rfl, rfl, rfl, trivial⟩
    obtain ⟨x166, e167, h⟩ := bnd h
    obtain ⟨x171, e172, h⟩ := bnd h
    refine WC.front 1 ?_
    refine WC.front 1 ?_
    refine WC.drawn mo (nthL [[], [], [1], [0, 1, 2], [], [], [5], [0, 1, 2, 3, 4, 5, 6], [0, 1, 2, 3], [0, 1, 2, 3, 4, 5, 6, 7, 8], [0, 1, 2, 3, 4, 5, 6, 7, 8, 9], [0, 1, 2, 3, 4, 5, 6, 7, 8, 9, 10]]) (nthL [[], [], [1], [0, 2], [], [], [5], [4, 6], [], [3, 8], [], [7, 10]]) (nthK [.val (.func (.func 19) #[] #[]), .val (.pointer (some ⟨g1, 4, none⟩)), .val (.int .i64 p0.From), .val (.int .i64 x166), .val (.func (.func 19) #[] #[]), .val (.pointer (some ⟨g1, 2, none⟩)), .val (.int .i64 p0.Number), .val (.int .i64 x171), .val (.pointer (some ⟨q24, 4, none⟩)), .any, .val (.pointer (some ⟨q24, 2, none⟩)), .any]) [⟨none, none, [2, 6], [], fun _ => bl g1 #[(.int .i64 p0.Kind), (.int .i64 p0.Path), (.int .i64 p0.Number), (.int .i64 p0.Of), (.int .i64 p0.From), (.slice a0_5 p0.Data.length c0_5), (.bool p0.Fin), (.int .i64 p0.Seen), (.int .i64 p0.Limit)] 41⟩, ⟨none, (some 9), [], [], fun _ => bl q24 #[(.int .i64 (w64 (1 + x5))), (.int .i64 x10), (.int .i64 x15), (.int .i64 x72), (.int .i64 x73), (.slice a75 x74.length c76), (.bool x78), (.int .i64 x79), (.int .i64 x80)] 41⟩, ⟨(some 9), (some 11), [], [], fun _ => bl q24 #[(.int .i64 (w64 (1 + x5))), (.int .i64 x10), (.int .i64 x15), (.int .i64 x72), (.int .i64 x166), (.slice a75 x74.length c76), (.bool x78), (.int .i64 x79), (.int .i64 x80)] 41⟩, ⟨(some 11), none, [], [], fun _ => bl q24 #[(.int .i64 (w64 (1 + x5))), (.int .i64 x10), (.int .i64 x171), (.int .i64 x72), (.int .i64 x166), (.slice a75 x74.length c76), (.bool x78), (.int .i64 x79), (.int .i64 x80)] 41⟩] (by kernel_rfl) (by kernel_rfl) (by kernel_rfl) (H := bl g3 #[(.int .i64 0), (.int .i64 0), (.int .i64 0), (.int .i64 0), (.int .i64 0), (.slice none 0 0), (.bool false), (.int .i64 0), (.int .i64 0)] 41 :: G) rfl ⟨?_, ?_, ?_, ?_, ?_, ?_, ?_, ?_, ?_, ?_, ?_, ?_, trivial⟩ ?_
    · intro Q ρ I1 H hI1 hk hpost
      have hc := Mem.le.refl I1
      refine mv rfl rfl ?_
      refine WL.nil ?_
      exact hpost _ _ hc rfl _ (fun _ hd => by obtain rfl := Option.some.inj hd; exact ⟨rfl, trivial⟩)
    · intro Q ρ I1 H hI1 hk hpost
      have hc := Mem.le.refl I1
      refine fa fl41_4 rfl rfl ?_
      refine WL.nil ?_
      exact hpost _ _ hc rfl _ (fun _ hd => by obtain rfl := Option.some.inj hd; exact ⟨rfl, trivial⟩)
    · intro Q ρ I1 H hI1 hk hpost
      obtain ⟨_, -⟩ := hk
      have hc := Mem.le.refl I1
      refine ld 0 na3 rfl rfl rfl rfl ?_
      refine WL.nil ?_
      exact hpost _ _ hc rfl _ (fun _ hd => by obtain rfl := Option.some.inj hd; exact ⟨rfl, trivial⟩)
    · intro Q ρ I1 H hI1 hk hpost
      obtain ⟨_, _, -⟩ := hk
      have hc := Mem.le.refl I1
      refine callv cl19 rfl rfl rfl (W19 e167) (fun _ J168 _ hJ169 q170 => ?_)
      have hc := hc.trans hJ169
      obtain ⟨rfl, rfl⟩ := q170
      refine WL.nil ?_
      exact hpost _ _ hc rfl _ (fun _ hd => by obtain rfl := Option.some.inj hd; exact ⟨rfl, trivial⟩)
    · intro Q ρ I1 H hI1 hk hpost
      have hc := Mem.le.refl I1
      refine mv rfl rfl ?_
      refine WL.nil ?_
      exact hpost _ _ hc rfl _ (fun _ hd => by obtain rfl := Option.some.inj hd; exact ⟨rfl, trivial⟩)
    · intro Q ρ I1 H hI1 hk hpost
      have hc := Mem.le.refl I1
      refine fa fl41_2 rfl rfl ?_
      refine WL.nil ?_
      exact hpost _ _ hc rfl _ (fun _ hd => by obtain rfl := Option.some.inj hd; exact ⟨rfl, trivial⟩)
    · intro Q ρ I1 H hI1 hk hpost
      obtain ⟨_, -⟩ := hk
      have hc := Mem.le.refl I1
      refine ld 0 na3 rfl rfl rfl rfl ?_
      refine WL.nil ?_
      exact hpost _ _ hc rfl _ (fun _ hd => by obtain rfl := Option.some.inj hd; exact ⟨rfl, trivial⟩)
    · intro Q ρ I1 H hI1 hk hpost
      obtain ⟨_, _, -⟩ := hk
      have hc := Mem.le.refl I1
      refine callv cl19 rfl rfl rfl (W19 e172) (fun _ J173 _ hJ174 q175 => ?_)
      have hc := hc.trans hJ174
      obtain ⟨rfl, rfl⟩ := q175
      refine WL.nil ?_
      exact hpost _ _ hc rfl _ (fun _ hd => by obtain rfl := Option.some.inj hd; exact ⟨rfl, trivial⟩)
    · intro Q ρ I1 H hI1 hk hpost
      have hc := Mem.le.refl I1
      refine fa fl41_4 rfl rfl ?_
      refine WL.nil ?_
      exact hpost _ _ hc rfl _ (fun _ hd => by obtain rfl := Option.some.inj hd; exact ⟨rfl, trivial⟩)
    · intro Q ρ I1 H hI1 hk hpost
      obtain ⟨_, _, -⟩ := hk
      have hc := Mem.le.refl I1
      refine st (C' := #[(.int .i64 (w64 (1 + x5))), (.int .i64 x10), (.int .i64 x15), (.int .i64 x72), (.int .i64 x166), (.slice a75 x74.length c76), (.bool x78), (.int .i64 x79), (.int .i64 x80)]) sz3 rfl rfl rfl rfl rfl ?_
      refine WL.nil ?_
      exact hpost undef _ hc trivial _ (fun _ hd => by cases hd)
    · intro Q ρ I1 H hI1 hk hpost
      have hc := Mem.le.refl I1
      refine fa fl41_2 rfl rfl ?_
      refine WL.nil ?_
      exact hpost _ _ hc rfl _ (fun _ hd => by obtain rfl := Option.some.inj hd; exact ⟨rfl, trivial⟩)
    · intro Q ρ I1 H hI1 hk hpost
      obtain ⟨_, _, -⟩ := hk
      have hc := Mem.le.refl I1
      refine st (C' := #[(.int .i64 (w64 (1 + x5))), (.int .i64 x10), (.int .i64 x171), (.int .i64 x72), (.int .i64 x166), (.slice a75 x74.length c76), (.bool x78), (.int .i64 x79), (.int .i64 x80)]) sz3 rfl rfl rfl rfl rfl ?_
      refine WL.nil ?_
      exact hpost undef _ hc trivial _ (fun _ hd => by cases hd)
    rintro ρ J176 hJ177 -
    refine WX.sub (r := [(4, (.pointer (some ⟨g3, 0, none⟩))), (6, (.pointer (some ⟨q24, 0, none⟩)))]) ?_ ⟨rfl, rfl, trivial⟩
    refine WX.is (H := bl g1 #[(.int .i64 p0.Kind), (.int .i64 p0.Path), (.int .i64 p0.Number), (.int .i64 p0.Of), (.int .i64 p0.From), (.slice a0_5 p0.Data.length c0_5), (.bool p0.Fin), (.int .i64 p0.Seen), (.int .i64 p0.Limit)] 41 :: bl q24 #[(.int .i64 (w64 (1 + x5))), (.int .i64 x10), (.int .i64 x171), (.int .i64 x72), (.int .i64 x166), (.slice a75 x74.length c76), (.bool x78), (.int .i64 x79), (.int .i64 x80)] 41 :: bl g3 #[(.int .i64 0), (.int .i64 0), (.int .i64 0), (.int .i64 0), (.int .i64 0), (.slice none 0 0), (.bool false), (.int .i64 0), (.int .i64 0)] 41 :: G) rfl ?_
    have hI := hI.trans hJ177
    replace hp0_5 := hp0_5.up hJ177; replace h77 := h77.up hJ177
    refine WX.block_normal ?_
    refine WX.then_ ?_
    refine WC.seq ?_
    refine WC.region ?_
    refine lda 1 ya41 rfl rfl rfl rfl rfl ?_
    refine WL.front 2 ?_
    refine sta (C' := #[(.int .i64 (w64 (1 + x5))), (.int .i64 x10), (.int .i64 x171), (.int .i64 x72), (.int .i64 x166), (.slice a75 x74.length c76), (.bool x78), (.int .i64 x79), (.int .i64 x80)]) sz41 rfl rfl rfl rfl rfl rfl ?_
    refine WL.del 1 ?_
    refine WL.del 1 ?_
    refine WL.next ?_
    refine WC.ret ?_
    cases h
    exact retC1x Try.results34 (fun a w ha hw => RC.cellA ha hw 0 rfl ya41 rfl rfl) (fun w hw => hw |>.del 0) hI ⟨_, _, rfl, h77, rfl⟩
  refine WC.skip ?_
  refine WX.block_normal ?_
  refine WX.then_ ?_
  refine WC.seq ?_
  refine WC.region ?_
  refine lda 1 ya41 rfl rfl rfl rfl rfl ?_
  refine WL.front 2 ?_
  refine sta (C' := #[(.int .i64 (w64 (1 + x5))), (.int .i64 x10), (.int .i64 x15), (.int .i64 x72), (.int .i64 x73), (.slice a75 x74.length c76), (.bool x78), (.int .i64 x79), (.int .i64 x80)]) sz41 rfl rfl rfl rfl rfl rfl ?_
  refine WL.del 1 ?_
  refine WL.del 1 ?_
  refine WL.next ?_
  refine WC.ret ?_
  cases h
  exact retC1x Try.results34 (fun a w ha hw => RC.cellA ha hw 0 rfl ya41 rfl rfl) (fun w hw => hw |>.del 0) hI ⟨_, _, rfl, h77, rfl⟩
theorem W82 {I : Mem} {G : List Asn} {p0 : Int} {p1 : Int} {p2 : Int} {r : Bool} (h : haulierref01_between p0 p1 p2 = some r) :
    CallsS Try.prog 82 #[.int .i64 p0, .int .i64 p1, .int .i64 p2] I (G) (fun v J G' => v = .bool r ∧ G = G') := by
  refine CallsS.enter Try.func82 rfl Try.ntmps82 rfl (fun w0 => ?_)
  have hI := Mem.le.refl I
  unfold haulierref01_between at h
  refine WC.seq ?_
  refine WC.region ?_
  refine asg rfl rfl ?_
  refine WL.next ?_
  refine WC.seq ?_
  refine WC.region ?_
  refine mv rfl rfl ?_
  refine mv rfl rfl ?_
  refine ge rfl rfl rfl ?_
  refine mv rfl rfl ?_
  rcases spl h with ⟨k1, h⟩ | ⟨k1, h⟩
  · skip
    refine WL.rb 10 rfl (bT k1) ?_
    refine WL.on rfl rfl ?_
    refine mv rfl rfl ?_
    refine WL.on rfl rfl ?_
    refine mv rfl rfl ?_
    refine WL.on rfl rfl ?_
    refine le rfl rfl rfl ?_
    refine pkT rfl rfl rfl ?_
    refine asg rfl rfl ?_
    refine WL.next ?_
    refine WC.ret ?_
    cases h
    exact ret1 Try.results82 rfl hI ⟨rfl, rfl⟩
  refine WL.rb 10 rfl (bF k1) ?_
  refine WL.no rfl rfl rfl rfl ?_
  refine WL.no rfl rfl rfl rfl ?_
  refine WL.no rfl rfl rfl rfl ?_
  refine pkF rfl rfl rfl ?_
  refine asg rfl rfl ?_
  refine WL.next ?_
  refine WC.ret ?_
  cases h
  exact ret1 Try.results82 rfl hI ⟨rfl, rfl⟩
end Go.Proofs.Ytgobccnphhljcaa
