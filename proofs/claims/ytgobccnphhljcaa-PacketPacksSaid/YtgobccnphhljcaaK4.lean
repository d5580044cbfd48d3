/- Printed by a program of this session: walks of Go functions. -/
import Derived.Test.YtgobccnphhljcaaKf
import Derived.Test.YtgobccnphhljcaaDf
import Derived.Test.YtgobccnphhljcaaK0
import Derived.Test.YtgobccnphhljcaaK1
import Derived.Test.YtgobccnphhljcaaK2
import Derived.Test.YtgobccnphhljcaaK3
namespace Go.Proofs.Ytgobccnphhljcaa
set_option linter.unusedVariables false
set_option maxRecDepth 10000
set_option maxHeartbeats 2000000
theorem W7 {I : Mem} {G : List Asn} {p0 : api_Packet} {p1 : api_Packet} {p2 : Int} {p3 : Int} {r : Bool} (h : haulierlaw06_PacketPacks p0 p1 p2 p3 = some r) {u0_5 : Value} (hp0_5 : IV I u0_5 p0.Data) {u1_5 : Value} (hp1_5 : IV I u1_5 p1.Data) :
    CallsS Try.prog 7 #[.agg #[(.int .i64 p0.Kind), (.int .i64 p0.Path), (.int .i64 p0.Number), (.int .i64 p0.Of), (.int .i64 p0.From), u0_5, (.bool p0.Fin), (.int .i64 p0.Seen), (.int .i64 p0.Limit)], .agg #[(.int .i64 p1.Kind), (.int .i64 p1.Path), (.int .i64 p1.Number), (.int .i64 p1.Of), (.int .i64 p1.From), u1_5, (.bool p1.Fin), (.int .i64 p1.Seen), (.int .i64 p1.Limit)], .int .i64 p2, .int .i64 p3] I (G) (fun v J G' => v = .bool r ∧ G = G') := by
  refine CallsS.enter Try.func7 rfl Try.ntmps7 rfl (fun w0 => ?_)
  have hI := Mem.le.refl I
  obtain ⟨a0_5, c0_5, rfl⟩ := hp0_5.hd
  obtain ⟨a1_5, c1_5, rfl⟩ := hp1_5.hd
  unfold haulierlaw06_PacketPacks at h
  refine WC.seq ?_
  refine WC.region ?_
  refine bx rfl rfl rfl (fun g1 => ?_)
  refine bx rfl rfl rfl (fun g3 => ?_)
  refine asg rfl rfl ?_
  refine WL.next ?_
  refine WC.seq ?_
  refine WC.sub (r := [(2, (.int .i64 p2)), (3, (.int .i64 p3)), (4, (.pointer (some ⟨g1, 0, none⟩))), (5, (.pointer (some ⟨g3, 0, none⟩)))]) ?_ ⟨rfl, rfl, rfl, rfl, trivial⟩
  obtain ⟨x5, e6, h⟩ := bnd h
  obtain ⟨x13, e14, h⟩ := bnd h
  refine WC.front 1 ?_
  refine WC.drawn mo (nthL [[], [], [0, 1], [], [], [0, 1, 2, 3, 4], [], [], [0, 1, 2, 3, 4, 5, 6, 7], [0, 1, 2, 3, 4, 5, 6, 7, 8]]) (nthL [[], [], [0, 1], [], [], [3, 4], [], [], [2, 6], [5, 7]]) (nthK [.val (.agg #[(.int .i64 p0.Kind), (.int .i64 p0.Path), (.int .i64 p0.Number), (.int .i64 p0.Of), (.int .i64 p0.From), (.slice a0_5 p0.Data.length c0_5), (.bool p0.Fin), (.int .i64 p0.Seen), (.int .i64 p0.Limit)]), .val (.int .i64 p2), .of (fun v I => ∃ a2_0 c2_0, v = (.agg #[(.int .i64 x5.Kind), (.int .i64 x5.Path), (.int .i64 x5.Number), (.int .i64 x5.Of), (.int .i64 x5.From), (.slice a2_0 x5.Data.length c2_0), (.bool x5.Fin), (.int .i64 x5.Seen), (.int .i64 x5.Limit)]) ∧ IV I (.slice a2_0 x5.Data.length c2_0) x5.Data) (fun q ⟨a2_0, c2_0, e, h2_0⟩ => ⟨a2_0, c2_0, e, h2_0.up q⟩), .val (.agg #[(.int .i64 p1.Kind), (.int .i64 p1.Path), (.int .i64 p1.Number), (.int .i64 p1.Of), (.int .i64 p1.From), (.slice a1_5 p1.Data.length c1_5), (.bool p1.Fin), (.int .i64 p1.Seen), (.int .i64 p1.Limit)]), .val (.int .i64 p3), .of (fun v I => ∃ a5_0 c5_0, v = (.agg #[(.int .i64 x13.Kind), (.int .i64 x13.Path), (.int .i64 x13.Number), (.int .i64 x13.Of), (.int .i64 x13.From), (.slice a5_0 x13.Data.length c5_0), (.bool x13.Fin), (.int .i64 x13.Seen), (.int .i64 x13.Limit)]) ∧ IV I (.slice a5_0 x13.Data.length c5_0) x13.Data) (fun q ⟨a5_0, c5_0, e, h5_0⟩ => ⟨a5_0, c5_0, e, h5_0.up q⟩), .of (fun v _ => ∃ g, v = .pointer (some ⟨g, 0, none⟩)) (fun _ h => h), .of (fun v _ => ∃ g, v = .pointer (some ⟨g, 0, none⟩)) (fun _ h => h), .any, .any]) [⟨none, none, [0], [], fun _ => bl g1 #[(.int .i64 p0.Kind), (.int .i64 p0.Path), (.int .i64 p0.Number), (.int .i64 p0.Of), (.int .i64 p0.From), (.slice a0_5 p0.Data.length c0_5), (.bool p0.Fin), (.int .i64 p0.Seen), (.int .i64 p0.Limit)] 41⟩, ⟨none, none, [3], [], fun _ => bl g3 #[(.int .i64 p1.Kind), (.int .i64 p1.Path), (.int .i64 p1.Number), (.int .i64 p1.Of), (.int .i64 p1.From), (.slice a1_5 p1.Data.length c1_5), (.bool p1.Fin), (.int .i64 p1.Seen), (.int .i64 p1.Limit)] 41⟩, ⟨(some 6), (some 8), [], [6], fun l => bl (pblk (vget l 0)) #[(.int .i64 0), (.int .i64 0), (.int .i64 0), (.int .i64 0), (.int .i64 0), (.slice none 0 0), (.bool false), (.int .i64 0), (.int .i64 0)] 41⟩, ⟨(some 7), (some 9), [], [7], fun l => bl (pblk (vget l 0)) #[(.int .i64 0), (.int .i64 0), (.int .i64 0), (.int .i64 0), (.int .i64 0), (.slice none 0 0), (.bool false), (.int .i64 0), (.int .i64 0)] 41⟩, ⟨(some 8), none, [], [2, 6], fun l => bl (pblk (vget l 1)) #[(.int .i64 x5.Kind), (.int .i64 x5.Path), (.int .i64 x5.Number), (.int .i64 x5.Of), (.int .i64 x5.From), (vnth (vget l 0) 5), (.bool x5.Fin), (.int .i64 x5.Seen), (.int .i64 x5.Limit)] 41⟩, ⟨(some 9), none, [], [5, 7], fun l => bl (pblk (vget l 1)) #[(.int .i64 x13.Kind), (.int .i64 x13.Path), (.int .i64 x13.Number), (.int .i64 x13.Of), (.int .i64 x13.From), (vnth (vget l 0) 5), (.bool x13.Fin), (.int .i64 x13.Seen), (.int .i64 x13.Limit)] 41⟩] (by kernel_rfl) (by kernel_rfl) (by kernel_rfl) (H := G) rfl ⟨?_, ?_, ?_, ?_, ?_, ?_, ?_, ?_, ?_, ?_, trivial⟩ ?_
  · intro Q ρ I1 H hI1 hk hpost
    have hc := Mem.le.refl I1
    refine lda 0 ya41 rfl rfl rfl rfl rfl ?_
    refine WL.nil ?_
    exact hpost _ _ hc rfl _ (fun _ hd => by obtain rfl := Option.some.inj hd; exact ⟨rfl, trivial⟩)
  · intro Q ρ I1 H hI1 hk hpost
    have hc := Mem.le.refl I1
    refine mv rfl rfl ?_
    refine WL.nil ?_
    exact hpost _ _ hc rfl _ (fun _ hd => by obtain rfl := Option.some.inj hd; exact ⟨rfl, trivial⟩)
  · intro Q ρ I1 H hI1 hk hpost
    obtain ⟨_, _, -⟩ := hk
    replace hp0_5 := hp0_5.up hI1
    have hc := Mem.le.refl I1
    refine call cl34 rfl rfl (W34 e6 hp0_5) (fun _ J7 _ hJ8 q9 => ?_)
    have hc := hc.trans hJ8
    replace hp0_5 := hp0_5.up hJ8
    obtain ⟨a10, c11, rfl, h12, rfl⟩ := q9
    refine WL.nil ?_
    exact hpost _ _ hc ⟨_, _, rfl, h12⟩ _ (fun _ hd => by obtain rfl := Option.some.inj hd; exact ⟨rfl, trivial⟩)
  · intro Q ρ I1 H hI1 hk hpost
    have hc := Mem.le.refl I1
    refine lda 0 ya41 rfl rfl rfl rfl rfl ?_
    refine WL.nil ?_
    exact hpost _ _ hc rfl _ (fun _ hd => by obtain rfl := Option.some.inj hd; exact ⟨rfl, trivial⟩)
  · intro Q ρ I1 H hI1 hk hpost
    have hc := Mem.le.refl I1
    refine mv rfl rfl ?_
    refine WL.nil ?_
    exact hpost _ _ hc rfl _ (fun _ hd => by obtain rfl := Option.some.inj hd; exact ⟨rfl, trivial⟩)
  · intro Q ρ I1 H hI1 hk hpost
    obtain ⟨_, _, -⟩ := hk
    replace hp1_5 := hp1_5.up hI1
    have hc := Mem.le.refl I1
    refine call cl34 rfl rfl (W34 e14 hp1_5) (fun _ J15 _ hJ16 q17 => ?_)
    have hc := hc.trans hJ16
    replace hp1_5 := hp1_5.up hJ16
    obtain ⟨a18, c19, rfl, h20, rfl⟩ := q17
    refine WL.nil ?_
    exact hpost _ _ hc ⟨_, _, rfl, h20⟩ _ (fun _ hd => by obtain rfl := Option.some.inj hd; exact ⟨rfl, trivial⟩)
  · intro Q ρ I1 H hI1 hk hpost
    have hc := Mem.le.refl I1
    refine al Try.zeroValue41 rfl (fun g21 => ?_)
    refine WL.nil ?_
    exact hpost _ _ hc ⟨_, rfl⟩ _ (fun _ hd => by obtain rfl := Option.some.inj hd; exact ⟨rfl, trivial⟩)
  · intro Q ρ I1 H hI1 hk hpost
    have hc := Mem.le.refl I1
    refine al Try.zeroValue41 rfl (fun g23 => ?_)
    refine WL.nil ?_
    exact hpost _ _ hc ⟨_, rfl⟩ _ (fun _ hd => by obtain rfl := Option.some.inj hd; exact ⟨rfl, trivial⟩)
  · intro Q ρ I1 H hI1 hk hpost
    obtain ⟨k2, k6, -⟩ := hk
    have hc := Mem.le.refl I1
    refine WL.sub (r := [(9, (ρ 6)), (22, (ρ 2))]) ?_ ⟨rfl, rfl, trivial⟩
    refine WL.conv (H := bl (pblk (ρ 6)) #[(.int .i64 0), (.int .i64 0), (.int .i64 0), (.int .i64 0), (.int .i64 0), (.slice none 0 0), (.bool false), (.int .i64 0), (.int .i64 0)] 41 :: H) (fun _ h => h) ?_
    obtain ⟨gp6, ex6⟩ := k6
    try rw [ex6]
    obtain ⟨a2_0, c2_0, ex2, h2_0⟩ := k2
    try rw [ex2]
    refine sta (C' := #[(.int .i64 x5.Kind), (.int .i64 x5.Path), (.int .i64 x5.Number), (.int .i64 x5.Of), (.int .i64 x5.From), (.slice a2_0 x5.Data.length c2_0), (.bool x5.Fin), (.int .i64 x5.Seen), (.int .i64 x5.Limit)]) sz41 rfl rfl rfl rfl rfl rfl ?_
    refine WL.conv (H := bl (pblk (ρ 6)) #[(.int .i64 x5.Kind), (.int .i64 x5.Path), (.int .i64 x5.Number), (.int .i64 x5.Of), (.int .i64 x5.From), (vnth (ρ 2) 5), (.bool x5.Fin), (.int .i64 x5.Seen), (.int .i64 x5.Limit)] 41 :: H) (fun _ h => by revert ex6 ex2 h; generalize ρ 6 = v6; generalize ρ 2 = v2; intro e2 e6 h; subst e6; subst e2; exact h) ?_
    refine WL.nil ?_
    exact hpost undef _ hc trivial _ (fun _ hd => by cases hd)
  · intro Q ρ I1 H hI1 hk hpost
    obtain ⟨k5, k7, -⟩ := hk
    have hc := Mem.le.refl I1
    refine WL.sub (r := [(10, (ρ 7)), (25, (ρ 5))]) ?_ ⟨rfl, rfl, trivial⟩
    refine WL.conv (H := bl (pblk (ρ 7)) #[(.int .i64 0), (.int .i64 0), (.int .i64 0), (.int .i64 0), (.int .i64 0), (.slice none 0 0), (.bool false), (.int .i64 0), (.int .i64 0)] 41 :: H) (fun _ h => h) ?_
    obtain ⟨gp7, ex7⟩ := k7
    try rw [ex7]
    obtain ⟨a5_0, c5_0, ex5, h5_0⟩ := k5
    try rw [ex5]
    refine sta (C' := #[(.int .i64 x13.Kind), (.int .i64 x13.Path), (.int .i64 x13.Number), (.int .i64 x13.Of), (.int .i64 x13.From), (.slice a5_0 x13.Data.length c5_0), (.bool x13.Fin), (.int .i64 x13.Seen), (.int .i64 x13.Limit)]) sz41 rfl rfl rfl rfl rfl rfl ?_
    refine WL.conv (H := bl (pblk (ρ 7)) #[(.int .i64 x13.Kind), (.int .i64 x13.Path), (.int .i64 x13.Number), (.int .i64 x13.Of), (.int .i64 x13.From), (vnth (ρ 5) 5), (.bool x13.Fin), (.int .i64 x13.Seen), (.int .i64 x13.Limit)] 41 :: H) (fun _ h => by revert ex7 ex5 h; generalize ρ 7 = v7; generalize ρ 5 = v5; intro e5 e7 h; subst e7; subst e5; exact h) ?_
    refine WL.nil ?_
    exact hpost undef _ hc trivial _ (fun _ hd => by cases hd)
  rintro ρ J25 hJ26 ⟨_, _, k2, _, _, k5, k6, k7, -⟩
  refine WX.sub (r := [(9, (ρ 6)), (10, (ρ 7))]) ?_ ⟨rfl, rfl, trivial⟩
  refine WX.is (H := bl g1 #[(.int .i64 p0.Kind), (.int .i64 p0.Path), (.int .i64 p0.Number), (.int .i64 p0.Of), (.int .i64 p0.From), (.slice a0_5 p0.Data.length c0_5), (.bool p0.Fin), (.int .i64 p0.Seen), (.int .i64 p0.Limit)] 41 :: bl g3 #[(.int .i64 p1.Kind), (.int .i64 p1.Path), (.int .i64 p1.Number), (.int .i64 p1.Of), (.int .i64 p1.From), (.slice a1_5 p1.Data.length c1_5), (.bool p1.Fin), (.int .i64 p1.Seen), (.int .i64 p1.Limit)] 41 :: bl (pblk (ρ 6)) #[(.int .i64 x5.Kind), (.int .i64 x5.Path), (.int .i64 x5.Number), (.int .i64 x5.Of), (.int .i64 x5.From), (vnth (ρ 2) 5), (.bool x5.Fin), (.int .i64 x5.Seen), (.int .i64 x5.Limit)] 41 :: bl (pblk (ρ 7)) #[(.int .i64 x13.Kind), (.int .i64 x13.Path), (.int .i64 x13.Number), (.int .i64 x13.Of), (.int .i64 x13.From), (vnth (ρ 5) 5), (.bool x13.Fin), (.int .i64 x13.Seen), (.int .i64 x13.Limit)] 41 :: G) rfl ?_
  generalize ρ 6 = v6 at *; obtain ⟨q27, rfl⟩ := k6
  generalize ρ 7 = v7 at *; obtain ⟨q28, rfl⟩ := k7
  generalize ρ 2 = v2 at *; obtain ⟨q29, q30, rfl, q31⟩ := k2
  generalize ρ 5 = v5 at *; obtain ⟨q32, q33, rfl, q34⟩ := k5
  have hI := hI.trans hJ26
  replace hp0_5 := hp0_5.up hJ26; replace hp1_5 := hp1_5.up hJ26
  refine WX.sub (r := [(9, (.pointer (some ⟨q27, 0, none⟩))), (10, (.pointer (some ⟨q28, 0, none⟩)))]) ?_ ⟨rfl, rfl, trivial⟩
  refine WX.is (H := bl g1 #[(.int .i64 p0.Kind), (.int .i64 p0.Path), (.int .i64 p0.Number), (.int .i64 p0.Of), (.int .i64 p0.From), (.slice a0_5 p0.Data.length c0_5), (.bool p0.Fin), (.int .i64 p0.Seen), (.int .i64 p0.Limit)] 41 :: bl g3 #[(.int .i64 p1.Kind), (.int .i64 p1.Path), (.int .i64 p1.Number), (.int .i64 p1.Of), (.int .i64 p1.From), (.slice a1_5 p1.Data.length c1_5), (.bool p1.Fin), (.int .i64 p1.Seen), (.int .i64 p1.Limit)] 41 :: bl q27 #[(.int .i64 x5.Kind), (.int .i64 x5.Path), (.int .i64 x5.Number), (.int .i64 x5.Of), (.int .i64 x5.From), (.slice q29 x5.Data.length q30), (.bool x5.Fin), (.int .i64 x5.Seen), (.int .i64 x5.Limit)] 41 :: bl q28 #[(.int .i64 x13.Kind), (.int .i64 x13.Path), (.int .i64 x13.Number), (.int .i64 x13.Of), (.int .i64 x13.From), (.slice q32 x13.Data.length q33), (.bool x13.Fin), (.int .i64 x13.Seen), (.int .i64 x13.Limit)] 41 :: G) rfl ?_
  refine WX.then_ ?_
  refine WC.seq ?_
  refine WC.region ?_
  refine lda 2 ya41 rfl rfl rfl rfl rfl ?_
  obtain ⟨⟨x35, x36⟩, e37, h⟩ := bnd h
  refine call cl30 rfl rfl (W30 e37 q31) (fun _ J38 _ hJ39 q40 => ?_)
  have hI := hI.trans hJ39
  replace q31 := q31.up hJ39; replace hp0_5 := hp0_5.up hJ39; replace hp1_5 := hp1_5.up hJ39; replace q34 := q34.up hJ39
  obtain ⟨a41, c42, rfl, rfl⟩ := q40
  refine mv rfl rfl ?_
  refine ex rfl rfl rfl ?_
  refine ex rfl rfl rfl ?_
  refine asg rfl rfl ?_
  refine asg rfl rfl ?_
  refine WL.del 1 ?_
  refine WL.del 1 ?_
  refine WL.next ?_
  refine WC.seq ?_
  refine WC.region ?_
  refine lda 1 ya41 rfl rfl rfl rfl rfl ?_
  obtain ⟨⟨x44, x45⟩, e46, h⟩ := bnd h
  refine call cl35 rfl rfl (W35 e46 q31) (fun _ J47 _ hJ48 q49 => ?_)
  have hI := hI.trans hJ48
  replace q31 := q31.up hJ48; replace q34 := q34.up hJ48
  obtain ⟨a50, c51, rfl, rfl⟩ := q49
  refine mv rfl rfl ?_
  refine ex rfl rfl rfl ?_
  refine ex rfl rfl rfl ?_
  refine asg rfl rfl ?_
  refine asg rfl rfl ?_
  refine WL.next ?_
  refine WC.seq ?_
  refine WC.region ?_
  refine lda 2 ya41 rfl rfl rfl rfl rfl ?_
  obtain ⟨⟨x53, x54⟩, e55, h⟩ := bnd h
  refine call cl31 rfl rfl (W31 e55 q31) (fun _ J56 _ hJ57 q58 => ?_)
  have hI := hI.trans hJ57
  replace q31 := q31.up hJ57; replace q34 := q34.up hJ57
  obtain ⟨a59, c60, rfl, rfl⟩ := q58
  refine mv rfl rfl ?_
  refine ex rfl rfl rfl ?_
  refine ex rfl rfl rfl ?_
  refine asg rfl rfl ?_
  refine asg rfl rfl ?_
  refine WL.next ?_
  refine WC.seq ?_
  refine WC.region ?_
  refine lda 3 ya41 rfl rfl rfl rfl rfl ?_
  obtain ⟨⟨x62, x63⟩, e64, h⟩ := bnd h
  refine call cl36 rfl rfl (W36 e64 q31) (fun _ J65 _ hJ66 q67 => ?_)
  have hI := hI.trans hJ66
  replace q31 := q31.up hJ66; replace q34 := q34.up hJ66
  obtain ⟨a68, c69, rfl, rfl⟩ := q67
  refine mv rfl rfl ?_
  refine ex rfl rfl rfl ?_
  refine ex rfl rfl rfl ?_
  refine asg rfl rfl ?_
  refine asg rfl rfl ?_
  refine WL.next ?_
  refine WC.seq ?_
  refine WC.region ?_
  refine asg rfl rfl ?_
  refine WL.next ?_
  refine WC.seq ?_
  refine WC.seq ?_
  refine WC.region ?_
  refine mv rfl rfl ?_
  refine nt rfl rfl ?_
  refine WL.next ?_
  obtain ⟨j73, hj73, h⟩ := bnd h
  refine WC.joinQ (σ := Int) (fun x72 => [(9, (.pointer (some ⟨q27, 0, none⟩))), (10, (.pointer (some ⟨q28, 0, none⟩))), (11, (.slice a41 x35.length c42)), (12, (.int .i64 x36)), (13, (.slice a50 x44.length c51)), (15, (.slice a59 x53.length c60)), (16, (.int .i64 x54)), (17, (.slice a68 x62.length c69)), (19, (.int .i64 x72))]) (fun x72 => OV 5 (.slice a68 x62.length c69) x62 :: OV 5 (.slice a59 x53.length c60) x53 :: OV 5 (.slice a50 x44.length c51) x44 :: OV 5 (.slice a41 x35.length c42) x35 :: bl q27 #[(.int .i64 x5.Kind), (.int .i64 x5.Path), (.int .i64 x5.Number), (.int .i64 x5.Of), (.int .i64 x5.From), (.slice q29 x5.Data.length q30), (.bool x5.Fin), (.int .i64 x5.Seen), (.int .i64 x5.Limit)] 41 :: bl q28 #[(.int .i64 x13.Kind), (.int .i64 x13.Path), (.int .i64 x13.Number), (.int .i64 x13.Of), (.int .i64 x13.From), (.slice q32 x13.Data.length q33), (.bool x13.Fin), (.int .i64 x13.Seen), (.int .i64 x13.Limit)] 41 :: G) (fun x72 J => x72 = j73) (fun kj73 => ?_) ?_
  · skip
    have lj73 := Mem.le.refl J65
    refine WC.itebn rfl hj73 (fun k74 hj73 => ?_) (fun k74 hj73 => ?_)
    · skip
      refine WC.skip ?_
      refine WX.front 5 ?_
      refine WX.front 5 ?_
      refine WX.front 5 ?_
      refine WX.front 5 ?_
      refine WX.front 5 ?_
      refine WX.front 5 ?_
      exact (kj73 0 _ lj73 (Option.some.inj hj73)).sub ⟨rfl, rfl, rfl, rfl, rfl, rfl, rfl, rfl, rfl, trivial⟩
    refine WC.region ?_
    refine asg rfl rfl ?_
    refine WL.nil ?_
    refine WX.front 5 ?_
    refine WX.front 5 ?_
    refine WX.front 5 ?_
    refine WX.front 5 ?_
    refine WX.front 5 ?_
    refine WX.front 5 ?_
    exact (kj73 1 _ lj73 (Option.some.inj hj73)).sub ⟨rfl, rfl, rfl, rfl, rfl, rfl, rfl, rfl, rfl, trivial⟩
  rintro x72 J75 hJ76 rfl
  have hI := hI.trans hJ76
  replace q31 := q31.up hJ76; replace q34 := q34.up hJ76
  refine WX.then_ ?_
  refine WC.seq ?_
  refine WC.sub (r := [(9, (.pointer (some ⟨q27, 0, none⟩))), (10, (.pointer (some ⟨q28, 0, none⟩))), (11, (.slice a41 x35.length c42)), (12, (.int .i64 x36)), (13, (.slice a50 x44.length c51)), (15, (.slice a59 x53.length c60)), (16, (.int .i64 x54)), (17, (.slice a68 x62.length c69)), (19, (.int .i64 x72))]) ?_ ⟨rfl, rfl, rfl, rfl, rfl, rfl, rfl, rfl, rfl, trivial⟩
  rcases spl h with ⟨k77, h⟩ | ⟨k77, h⟩
  · skip
    rcases spl h with ⟨k78, h⟩ | ⟨k78, h⟩
    · skip
      obtain ⟨x79, e80, h⟩ := bnd h
      rcases spl h with ⟨k84, h⟩ | ⟨k84, h⟩
      · skip
        obtain ⟨x91, e92, h⟩ := bnd h
        rcases spl h with ⟨k96, h⟩ | ⟨k96, h⟩
        · skip
          obtain ⟨x103, e104, h⟩ := bnd h
          rcases spl h with ⟨k108, h⟩ | ⟨k108, h⟩
          · skip
            obtain ⟨x109, e110, h⟩ := bnd h
            obtain ⟨x114, e115, h⟩ := bnd h
            rcases spl h with ⟨k119, h⟩ | ⟨k119, h⟩
            · skip
              obtain ⟨x120, e121, h⟩ := bnd h
              rcases spl h with ⟨k125, h⟩ | ⟨k125, h⟩
              · skip
                obtain ⟨x126, e127, h⟩ := bnd h
                refine WC.front 5 ?_
                refine WC.front 1 ?_
                refine WC.front 2 ?_
                refine WC.front 3 ?_
                refine WC.front 4 ?_
                refine WC.front 5 ?_
                refine WC.drawn mo (nthL [[], [], [0, 1], [0, 1, 2], [0, 1, 2, 3], [0, 1, 2, 3], [0, 1, 2, 3, 4, 5], [0, 1, 2, 3, 4, 5, 6], [0, 1, 2, 3, 4, 5, 6, 7], [0, 1, 2, 3, 4, 5, 6, 7, 8], [0, 1, 2, 3, 4, 5, 6, 7, 8, 9], [0, 1, 2, 3, 4, 5, 6, 7, 8], [0, 1, 2, 3, 4, 5, 6, 7, 8, 9, 10, 11], [0, 1, 2, 3, 4, 5, 6, 7, 8, 9, 10, 11, 12], [0, 1, 2, 3, 4, 5, 6, 7, 8, 9, 10, 11, 12, 13], [0, 1, 2, 3, 4, 5, 6, 7, 8, 9, 10, 11, 12, 13, 14], [0, 1, 2, 3, 4, 5, 6, 7, 8, 9, 10, 11, 12, 13, 14], [0, 1, 2, 3, 4, 5, 6, 7, 8, 9, 10, 11, 12, 13, 14, 15, 16], [0, 1, 2, 3, 4, 5, 6, 7, 8, 9, 10, 11, 12, 13, 14, 15, 16, 17], [0, 1, 2, 3, 4, 5, 6, 7, 8, 9, 10, 11, 12, 13, 14, 15, 16, 17, 18], [0, 1, 2, 3, 4, 5, 6, 7, 8, 9, 10, 11, 12, 13, 14, 15, 16, 17, 18, 19], [0, 1, 2, 3, 4, 5, 6, 7, 8, 9, 10, 11, 12, 13, 14, 15, 16, 17, 18, 19], [0, 1, 2, 3, 4, 5, 6, 7, 8, 9, 10, 11, 12, 13, 14, 15, 16, 17, 18, 19, 20, 21], [0, 1, 2, 3, 4, 5, 6, 7, 8, 9, 10, 11, 12, 13, 14, 15, 16, 17, 18, 19, 20, 21, 22], [0, 1, 2, 3, 4, 5, 6, 7, 8, 9, 10, 11, 12, 13, 14, 15, 16, 17, 18, 19, 20, 21, 22, 23], [0, 1, 2, 3, 4, 5, 6, 7, 8, 9, 10, 11, 12, 13, 14, 15, 16, 17, 18, 19, 20, 21, 22, 23, 24], [0, 1, 2, 3, 4, 5, 6, 7, 8, 9, 10, 11, 12, 13, 14, 15, 16, 17, 18, 19, 20, 21, 22, 23, 24], [0, 1, 2, 3, 4, 5, 6, 7, 8, 9, 10, 11, 12, 13, 14, 15, 16, 17, 18, 19, 20, 21, 22, 23, 24, 25, 26], [0, 1, 2, 3, 4, 5, 6, 7, 8, 9, 10, 11, 12, 13, 14, 15, 16, 17, 18, 19, 20, 21, 22, 23, 24], [0, 1, 2, 3, 4, 5, 6, 7, 8, 9, 10, 11, 12, 13, 14, 15, 16, 17, 18, 19, 20, 21, 22, 23, 24], [0, 1, 2, 3, 4, 5, 6, 7, 8, 9, 10, 11, 12, 13, 14, 15, 16, 17, 18, 19, 20, 21, 22, 23, 24, 25, 26, 27, 28, 29], [0, 1, 2, 3, 4, 5, 6, 7, 8, 9, 10, 11, 12, 13, 14, 15, 16, 17, 18, 19, 20, 21, 22, 23, 24, 25, 26, 27, 28, 29, 30], [0, 1, 2, 3, 4, 5, 6, 7, 8, 9, 10, 11, 12, 13, 14, 15, 16, 17, 18, 19, 20, 21, 22, 23, 24, 25, 26, 27, 28, 29, 30, 31], [0, 1, 2, 3, 4, 5, 6, 7, 8, 9, 10, 11, 12, 13, 14, 15, 16, 17, 18, 19, 20, 21, 22, 23, 24, 25, 26, 27, 28, 29, 30, 31, 32], [0, 1, 2, 3, 4, 5, 6, 7, 8, 9, 10, 11, 12, 13, 14, 15, 16, 17, 18, 19, 20, 21, 22, 23, 24, 25, 26, 27, 28, 29, 30, 31, 32, 33], [0, 1, 2, 3, 4, 5, 6, 7, 8, 9, 10, 11, 12, 13, 14, 15, 16, 17, 18, 19, 20, 21, 22, 23, 24, 25, 26, 27, 28, 29, 30, 31, 32, 33], [0, 1, 2, 3, 4, 5, 6, 7, 8, 9, 10, 11, 12, 13, 14, 15, 16, 17, 18, 19, 20, 21, 22, 23, 24, 25, 26, 27, 28, 29, 30, 31, 32, 33, 34, 35], [0, 1, 2, 3, 4, 5, 6, 7, 8, 9, 10, 11, 12, 13, 14, 15, 16, 17, 18, 19, 20, 21, 22, 23, 24, 25, 26, 27, 28, 29, 30, 31, 32, 33, 34, 35, 36], [0, 1, 2, 3, 4, 5, 6, 7, 8, 9, 10, 11, 12, 13, 14, 15, 16, 17, 18, 19, 20, 21, 22, 23, 24, 25, 26, 27, 28, 29, 30, 31, 32, 33, 34, 35, 36, 37], [0, 1, 2, 3, 4, 5, 6, 7, 8, 9, 10, 11, 12, 13, 14, 15, 16, 17, 18, 19, 20, 21, 22, 23, 24, 25, 26, 27, 28, 29, 30, 31, 32, 33, 34, 35, 36, 37, 38], [0, 1, 2, 3, 4, 5, 6, 7, 8, 9, 10, 11, 12, 13, 14, 15, 16, 17, 18, 19, 20, 21, 22, 23, 24, 25, 26, 27, 28, 29, 30, 31, 32, 33, 34, 35, 36, 37, 38, 39], [0, 1, 2, 3, 4, 5, 6, 7, 8, 9, 10, 11, 12, 13, 14, 15, 16, 17, 18, 19, 20, 21, 22, 23, 24, 25, 26, 27, 28, 29, 30, 31, 32, 33, 34, 35, 36, 37, 38, 39, 40]]) (nthL [[], [], [0, 1], [2], [3], [3], [3, 4, 5], [3, 6], [7], [8], [8, 9], [8], [8, 10, 11], [8, 12], [13], [14], [14], [14, 15, 16], [14, 17], [18], [19], [19], [19, 20, 21], [19, 22], [23], [24], [24], [24, 25, 26], [24], [24], [24, 28, 29], [24, 27, 30], [24, 31], [32], [33], [33], [33, 34, 35], [33, 36], [37], [38], [38, 39], [40]]) (nthK [.val (.int .i64 x36), .val (.int .i64 x72), .val (.bool (decide (x36 = x72))), .val (.bool true), .val (.int .i64 x54), .val (.int .i64 x72), .val (.bool (decide (x54 = x72))), .val (.bool (decide (x54 = x72))), .val (.bool true), .val (.agg #[(.int .i64 x5.Kind), (.int .i64 x5.Path), (.int .i64 x5.Number), (.int .i64 x5.Of), (.int .i64 x5.From), (.slice q29 x5.Data.length q30), (.bool x5.Fin), (.int .i64 x5.Seen), (.int .i64 x5.Limit)]), .val (.int .i64 x79), .val (.int .i64 x72), .val (.bool (decide (x79 = x72))), .val (.bool (decide (x79 = x72))), .val (.bool true), .val (.slice a41 x35.length c42), .val (.slice a50 x44.length c51), .val (.bool x91), .val (.bool x91), .val (.bool true), .val (.slice a59 x53.length c60), .val (.slice a68 x62.length c69), .val (.bool x103), .val (.bool x103), .val (.bool true), .val (.agg #[(.int .i64 x5.Kind), (.int .i64 x5.Path), (.int .i64 x5.Number), (.int .i64 x5.Of), (.int .i64 x5.From), (.slice q29 x5.Data.length q30), (.bool x5.Fin), (.int .i64 x5.Seen), (.int .i64 x5.Limit)]), .val (.agg #[(.int .i64 x13.Kind), (.int .i64 x13.Path), (.int .i64 x13.Number), (.int .i64 x13.Of), (.int .i64 x13.From), (.slice q32 x13.Data.length q33), (.bool x13.Fin), (.int .i64 x13.Seen), (.int .i64 x13.Limit)]), .val (.bool x109), .val (.agg #[(.int .i64 x5.Kind), (.int .i64 x5.Path), (.int .i64 x5.Number), (.int .i64 x5.Of), (.int .i64 x5.From), (.slice q29 x5.Data.length q30), (.bool x5.Fin), (.int .i64 x5.Seen), (.int .i64 x5.Limit)]), .val (.agg #[(.int .i64 x13.Kind), (.int .i64 x13.Path), (.int .i64 x13.Number), (.int .i64 x13.Of), (.int .i64 x13.From), (.slice q32 x13.Data.length q33), (.bool x13.Fin), (.int .i64 x13.Seen), (.int .i64 x13.Limit)]), .val (.bool x114), .val (.bool (x109 == x114)), .val (.bool (x109 == x114)), .val (.bool true), .val (.agg #[(.int .i64 x13.Kind), (.int .i64 x13.Path), (.int .i64 x13.Number), (.int .i64 x13.Of), (.int .i64 x13.From), (.slice q32 x13.Data.length q33), (.bool x13.Fin), (.int .i64 x13.Seen), (.int .i64 x13.Limit)]), .val (.agg #[(.int .i64 x13.Kind), (.int .i64 x13.Path), (.int .i64 x13.Number), (.int .i64 x13.Of), (.int .i64 x13.From), (.slice q32 x13.Data.length q33), (.bool x13.Fin), (.int .i64 x13.Seen), (.int .i64 x13.Limit)]), .val (.bool x120), .val (.bool x120), .val (.bool true), .val (.bool x126), .val (.bool x126), .val (.bool x126)]) [⟨none, none, [9, 25, 28], [], fun _ => bl q27 #[(.int .i64 x5.Kind), (.int .i64 x5.Path), (.int .i64 x5.Number), (.int .i64 x5.Of), (.int .i64 x5.From), (.slice q29 x5.Data.length q30), (.bool x5.Fin), (.int .i64 x5.Seen), (.int .i64 x5.Limit)] 41⟩, ⟨none, (some 17), [], [], fun _ => OV 5 (.slice a41 x35.length c42) x35⟩, ⟨none, (some 17), [], [], fun _ => OV 5 (.slice a50 x44.length c51) x44⟩, ⟨none, (some 22), [], [], fun _ => OV 5 (.slice a59 x53.length c60) x53⟩, ⟨none, (some 22), [], [], fun _ => OV 5 (.slice a68 x62.length c69) x62⟩, ⟨none, none, [26, 29, 34, 35], [], fun _ => bl q28 #[(.int .i64 x13.Kind), (.int .i64 x13.Path), (.int .i64 x13.Number), (.int .i64 x13.Of), (.int .i64 x13.From), (.slice q32 x13.Data.length q33), (.bool x13.Fin), (.int .i64 x13.Seen), (.int .i64 x13.Limit)] 41⟩] (by kernel_rfl) (by kernel_rfl) (by kernel_rfl) (H := G) rfl ⟨?_, ?_, ?_, ?_, ?_, ?_, ?_, ?_, ?_, ?_, ?_, ?_, ?_, ?_, ?_, ?_, ?_, ?_, ?_, ?_, ?_, ?_, ?_, ?_, ?_, ?_, ?_, ?_, ?_, ?_, ?_, ?_, ?_, ?_, ?_, ?_, ?_, ?_, ?_, ?_, ?_, ?_, trivial⟩ ?_
                · intro Q ρ I1 H hI1 hk hpost
                  have hc := Mem.le.refl I1
                  refine mv rfl rfl ?_
                  refine WL.nil ?_
                  exact hpost _ _ hc rfl _ (fun _ hd => by obtain rfl := Option.some.inj hd; exact ⟨rfl, trivial⟩)
                · intro Q ρ I1 H hI1 hk hpost
                  have hc := Mem.le.refl I1
                  refine mv rfl rfl ?_
                  refine WL.nil ?_
                  exact hpost _ _ hc rfl _ (fun _ hd => by obtain rfl := Option.some.inj hd; exact ⟨rfl, trivial⟩)
                · intro Q ρ I1 H hI1 hk hpost
                  obtain ⟨_, _, -⟩ := hk
                  have hc := Mem.le.refl I1
                  refine eq rfl rfl rfl ?_
                  refine WL.nil ?_
                  exact hpost _ _ hc rfl _ (fun _ hd => by obtain rfl := Option.some.inj hd; exact ⟨rfl, trivial⟩)
                · intro Q ρ I1 H hI1 hk hpost
                  obtain ⟨_, -⟩ := hk
                  have hc := Mem.le.refl I1
                  refine mv rfl rfl ?_
                  refine WL.nil ?_
                  exact hpost _ _ hc (bT k77) _ (fun _ hd => by obtain rfl := Option.some.inj hd; exact ⟨rfl, trivial⟩)
                · intro Q ρ I1 H hI1 hk hpost
                  obtain ⟨_, -⟩ := hk
                  have hc := Mem.le.refl I1
                  refine WL.on rfl rfl ?_
                  refine mv rfl rfl ?_
                  refine WL.nil ?_
                  exact hpost _ _ hc rfl _ (fun _ hd => by obtain rfl := Option.some.inj hd; exact ⟨rfl, trivial⟩)
                · intro Q ρ I1 H hI1 hk hpost
                  obtain ⟨_, -⟩ := hk
                  have hc := Mem.le.refl I1
                  refine WL.on rfl rfl ?_
                  refine mv rfl rfl ?_
                  refine WL.nil ?_
                  exact hpost _ _ hc rfl _ (fun _ hd => by obtain rfl := Option.some.inj hd; exact ⟨rfl, trivial⟩)
                · intro Q ρ I1 H hI1 hk hpost
                  obtain ⟨_, _, _, -⟩ := hk
                  have hc := Mem.le.refl I1
                  refine WL.on rfl rfl ?_
                  refine eq rfl rfl rfl ?_
                  refine WL.nil ?_
                  exact hpost _ _ hc rfl _ (fun _ hd => by obtain rfl := Option.some.inj hd; exact ⟨rfl, trivial⟩)
                · intro Q ρ I1 H hI1 hk hpost
                  obtain ⟨_, _, -⟩ := hk
                  have hc := Mem.le.refl I1
                  refine pkT rfl rfl rfl ?_
                  refine WL.nil ?_
                  exact hpost _ _ hc rfl _ (fun _ hd => by obtain rfl := Option.some.inj hd; exact ⟨rfl, trivial⟩)
                · intro Q ρ I1 H hI1 hk hpost
                  obtain ⟨_, -⟩ := hk
                  have hc := Mem.le.refl I1
                  refine mv rfl rfl ?_
                  refine WL.nil ?_
                  exact hpost _ _ hc (bT k78) _ (fun _ hd => by obtain rfl := Option.some.inj hd; exact ⟨rfl, trivial⟩)
                · intro Q ρ I1 H hI1 hk hpost
                  obtain ⟨_, -⟩ := hk
                  have hc := Mem.le.refl I1
                  refine WL.on rfl rfl ?_
                  refine lda 0 ya41 rfl rfl rfl rfl rfl ?_
                  refine WL.nil ?_
                  exact hpost _ _ hc rfl _ (fun _ hd => by obtain rfl := Option.some.inj hd; exact ⟨rfl, trivial⟩)
                · intro Q ρ I1 H hI1 hk hpost
                  obtain ⟨_, _, -⟩ := hk
                  replace q31 := q31.up hI1
                  have hc := Mem.le.refl I1
                  refine WL.on rfl rfl ?_
                  refine call cl32 rfl rfl (W32 e80 q31) (fun _ J81 _ hJ82 q83 => ?_)
                  have hc := hc.trans hJ82
                  replace q31 := q31.up hJ82
                  obtain ⟨rfl, rfl⟩ := q83
                  refine WL.nil ?_
                  exact hpost _ _ hc rfl _ (fun _ hd => by obtain rfl := Option.some.inj hd; exact ⟨rfl, trivial⟩)
                · intro Q ρ I1 H hI1 hk hpost
                  obtain ⟨_, -⟩ := hk
                  have hc := Mem.le.refl I1
                  refine WL.on rfl rfl ?_
                  refine mv rfl rfl ?_
                  refine WL.nil ?_
                  exact hpost _ _ hc rfl _ (fun _ hd => by obtain rfl := Option.some.inj hd; exact ⟨rfl, trivial⟩)
                · intro Q ρ I1 H hI1 hk hpost
                  obtain ⟨_, _, _, -⟩ := hk
                  have hc := Mem.le.refl I1
                  refine WL.on rfl rfl ?_
                  refine eq rfl rfl rfl ?_
                  refine WL.nil ?_
                  exact hpost _ _ hc rfl _ (fun _ hd => by obtain rfl := Option.some.inj hd; exact ⟨rfl, trivial⟩)
                · intro Q ρ I1 H hI1 hk hpost
                  obtain ⟨_, _, -⟩ := hk
                  have hc := Mem.le.refl I1
                  refine pkT rfl rfl rfl ?_
                  refine WL.nil ?_
                  exact hpost _ _ hc rfl _ (fun _ hd => by obtain rfl := Option.some.inj hd; exact ⟨rfl, trivial⟩)
                · intro Q ρ I1 H hI1 hk hpost
                  obtain ⟨_, -⟩ := hk
                  have hc := Mem.le.refl I1
                  refine mv rfl rfl ?_
                  refine WL.nil ?_
                  exact hpost _ _ hc (bT k84) _ (fun _ hd => by obtain rfl := Option.some.inj hd; exact ⟨rfl, trivial⟩)
                · intro Q ρ I1 H hI1 hk hpost
                  obtain ⟨_, -⟩ := hk
                  have hc := Mem.le.refl I1
                  refine WL.on rfl rfl ?_
                  refine mv rfl rfl ?_
                  refine WL.nil ?_
                  exact hpost _ _ hc rfl _ (fun _ hd => by obtain rfl := Option.some.inj hd; exact ⟨rfl, trivial⟩)
                · intro Q ρ I1 H hI1 hk hpost
                  obtain ⟨_, -⟩ := hk
                  have hc := Mem.le.refl I1
                  refine WL.on rfl rfl ?_
                  refine mv rfl rfl ?_
                  refine WL.nil ?_
                  exact hpost _ _ hc rfl _ (fun _ hd => by obtain rfl := Option.some.inj hd; exact ⟨rfl, trivial⟩)
                · intro Q ρ I1 H hI1 hk hpost
                  obtain ⟨_, _, _, -⟩ := hk
                  have hc := Mem.le.refl I1
                  refine WL.on rfl rfl ?_
                  refine WL.freeze (fun J85 hJ86 h87 => ?_)
                  have hc := hc.trans hJ86
                  refine WL.freeze (fun J88 hJ89 h90 => ?_)
                  have hc := hc.trans hJ89
                  replace h87 := h87.up hJ89
                  refine call cl17 rfl rfl (W17 e92 h87 h90) (fun _ J93 _ hJ94 q95 => ?_)
                  have hc := hc.trans hJ94
                  replace h87 := h87.up hJ94; replace h90 := h90.up hJ94
                  obtain ⟨rfl, rfl⟩ := q95
                  refine WL.nil ?_
                  exact hpost _ _ hc rfl _ (fun _ hd => by obtain rfl := Option.some.inj hd; exact ⟨rfl, trivial⟩)
                · intro Q ρ I1 H hI1 hk hpost
                  obtain ⟨_, _, -⟩ := hk
                  have hc := Mem.le.refl I1
                  refine pkT rfl rfl rfl ?_
                  refine WL.nil ?_
                  exact hpost _ _ hc rfl _ (fun _ hd => by obtain rfl := Option.some.inj hd; exact ⟨rfl, trivial⟩)
                · intro Q ρ I1 H hI1 hk hpost
                  obtain ⟨_, -⟩ := hk
                  have hc := Mem.le.refl I1
                  refine mv rfl rfl ?_
                  refine WL.nil ?_
                  exact hpost _ _ hc (bt1 k96) _ (fun _ hd => by obtain rfl := Option.some.inj hd; exact ⟨rfl, trivial⟩)
                · intro Q ρ I1 H hI1 hk hpost
                  obtain ⟨_, -⟩ := hk
                  have hc := Mem.le.refl I1
                  refine WL.on rfl rfl ?_
                  refine mv rfl rfl ?_
                  refine WL.nil ?_
                  exact hpost _ _ hc rfl _ (fun _ hd => by obtain rfl := Option.some.inj hd; exact ⟨rfl, trivial⟩)
                · intro Q ρ I1 H hI1 hk hpost
                  obtain ⟨_, -⟩ := hk
                  have hc := Mem.le.refl I1
                  refine WL.on rfl rfl ?_
                  refine mv rfl rfl ?_
                  refine WL.nil ?_
                  exact hpost _ _ hc rfl _ (fun _ hd => by obtain rfl := Option.some.inj hd; exact ⟨rfl, trivial⟩)
                · intro Q ρ I1 H hI1 hk hpost
                  obtain ⟨_, _, _, -⟩ := hk
                  have hc := Mem.le.refl I1
                  refine WL.on rfl rfl ?_
                  refine WL.freeze (fun J97 hJ98 h99 => ?_)
                  have hc := hc.trans hJ98
                  refine WL.freeze (fun J100 hJ101 h102 => ?_)
                  have hc := hc.trans hJ101
                  replace h99 := h99.up hJ101
                  refine call cl17 rfl rfl (W17 e104 h99 h102) (fun _ J105 _ hJ106 q107 => ?_)
                  have hc := hc.trans hJ106
                  replace h99 := h99.up hJ106; replace h102 := h102.up hJ106
                  obtain ⟨rfl, rfl⟩ := q107
                  refine WL.nil ?_
                  exact hpost _ _ hc rfl _ (fun _ hd => by obtain rfl := Option.some.inj hd; exact ⟨rfl, trivial⟩)
                · intro Q ρ I1 H hI1 hk hpost
                  obtain ⟨_, _, -⟩ := hk
                  have hc := Mem.le.refl I1
                  refine pkT rfl rfl rfl ?_
                  refine WL.nil ?_
                  exact hpost _ _ hc rfl _ (fun _ hd => by obtain rfl := Option.some.inj hd; exact ⟨rfl, trivial⟩)
                · intro Q ρ I1 H hI1 hk hpost
                  obtain ⟨_, -⟩ := hk
                  have hc := Mem.le.refl I1
                  refine mv rfl rfl ?_
                  refine WL.nil ?_
                  exact hpost _ _ hc (bt1 k108) _ (fun _ hd => by obtain rfl := Option.some.inj hd; exact ⟨rfl, trivial⟩)
                · intro Q ρ I1 H hI1 hk hpost
                  obtain ⟨_, -⟩ := hk
                  have hc := Mem.le.refl I1
                  refine WL.on rfl rfl ?_
                  refine lda 0 ya41 rfl rfl rfl rfl rfl ?_
                  refine WL.nil ?_
                  exact hpost _ _ hc rfl _ (fun _ hd => by obtain rfl := Option.some.inj hd; exact ⟨rfl, trivial⟩)
                · intro Q ρ I1 H hI1 hk hpost
                  obtain ⟨_, -⟩ := hk
                  have hc := Mem.le.refl I1
                  refine WL.on rfl rfl ?_
                  refine lda 0 ya41 rfl rfl rfl rfl rfl ?_
                  refine WL.nil ?_
                  exact hpost _ _ hc rfl _ (fun _ hd => by obtain rfl := Option.some.inj hd; exact ⟨rfl, trivial⟩)
                · intro Q ρ I1 H hI1 hk hpost
                  obtain ⟨_, _, _, -⟩ := hk
                  replace q31 := q31.up hI1; replace q34 := q34.up hI1
                  have hc := Mem.le.refl I1
                  refine WL.on rfl rfl ?_
                  refine call cl37 rfl rfl (W37 e110 q31 q34) (fun _ J111 _ hJ112 q113 => ?_)
                  have hc := hc.trans hJ112
                  replace q31 := q31.up hJ112; replace q34 := q34.up hJ112
                  obtain ⟨rfl, rfl⟩ := q113
                  refine WL.nil ?_
                  exact hpost _ _ hc rfl _ (fun _ hd => by obtain rfl := Option.some.inj hd; exact ⟨rfl, trivial⟩)
                · intro Q ρ I1 H hI1 hk hpost
                  obtain ⟨_, -⟩ := hk
                  have hc := Mem.le.refl I1
                  refine WL.on rfl rfl ?_
                  refine lda 0 ya41 rfl rfl rfl rfl rfl ?_
                  refine WL.nil ?_
                  exact hpost _ _ hc rfl _ (fun _ hd => by obtain rfl := Option.some.inj hd; exact ⟨rfl, trivial⟩)
                · intro Q ρ I1 H hI1 hk hpost
                  obtain ⟨_, -⟩ := hk
                  have hc := Mem.le.refl I1
                  refine WL.on rfl rfl ?_
                  refine lda 0 ya41 rfl rfl rfl rfl rfl ?_
                  refine WL.nil ?_
                  exact hpost _ _ hc rfl _ (fun _ hd => by obtain rfl := Option.some.inj hd; exact ⟨rfl, trivial⟩)
                · intro Q ρ I1 H hI1 hk hpost
                  obtain ⟨_, _, _, -⟩ := hk
                  replace q31 := q31.up hI1; replace q34 := q34.up hI1
                  have hc := Mem.le.refl I1
                  refine WL.on rfl rfl ?_
                  refine call cl38 rfl rfl (W38 e115 q31 q34) (fun _ J116 _ hJ117 q118 => ?_)
                  have hc := hc.trans hJ117
                  replace q31 := q31.up hJ117; replace q34 := q34.up hJ117
                  obtain ⟨rfl, rfl⟩ := q118
                  refine WL.nil ?_
                  exact hpost _ _ hc rfl _ (fun _ hd => by obtain rfl := Option.some.inj hd; exact ⟨rfl, trivial⟩)
                · intro Q ρ I1 H hI1 hk hpost
                  obtain ⟨_, _, _, -⟩ := hk
                  have hc := Mem.le.refl I1
                  refine WL.on rfl rfl ?_
                  refine be Try.underlying4 rfl rfl rfl ?_
                  refine WL.nil ?_
                  exact hpost _ _ hc rfl _ (fun _ hd => by obtain rfl := Option.some.inj hd; exact ⟨rfl, trivial⟩)
                · intro Q ρ I1 H hI1 hk hpost
                  obtain ⟨_, _, -⟩ := hk
                  have hc := Mem.le.refl I1
                  refine pkT rfl rfl rfl ?_
                  refine WL.nil ?_
                  exact hpost _ _ hc rfl _ (fun _ hd => by obtain rfl := Option.some.inj hd; exact ⟨rfl, trivial⟩)
                · intro Q ρ I1 H hI1 hk hpost
                  obtain ⟨_, -⟩ := hk
                  have hc := Mem.le.refl I1
                  refine mv rfl rfl ?_
                  refine WL.nil ?_
                  exact hpost _ _ hc (bt1 k119) _ (fun _ hd => by obtain rfl := Option.some.inj hd; exact ⟨rfl, trivial⟩)
                · intro Q ρ I1 H hI1 hk hpost
                  obtain ⟨_, -⟩ := hk
                  have hc := Mem.le.refl I1
                  refine WL.on rfl rfl ?_
                  refine lda 0 ya41 rfl rfl rfl rfl rfl ?_
                  refine WL.nil ?_
                  exact hpost _ _ hc rfl _ (fun _ hd => by obtain rfl := Option.some.inj hd; exact ⟨rfl, trivial⟩)
                · intro Q ρ I1 H hI1 hk hpost
                  obtain ⟨_, -⟩ := hk
                  have hc := Mem.le.refl I1
                  refine WL.on rfl rfl ?_
                  refine lda 0 ya41 rfl rfl rfl rfl rfl ?_
                  refine WL.nil ?_
                  exact hpost _ _ hc rfl _ (fun _ hd => by obtain rfl := Option.some.inj hd; exact ⟨rfl, trivial⟩)
                · intro Q ρ I1 H hI1 hk hpost
                  obtain ⟨_, _, _, -⟩ := hk
                  replace q34 := q34.up hI1
                  have hc := Mem.le.refl I1
                  refine WL.on rfl rfl ?_
                  refine call cl37 rfl rfl (W37 e121 q34 q34) (fun _ J122 _ hJ123 q124 => ?_)
                  have hc := hc.trans hJ123
                  replace q34 := q34.up hJ123
                  obtain ⟨rfl, rfl⟩ := q124
                  refine WL.nil ?_
                  exact hpost _ _ hc rfl _ (fun _ hd => by obtain rfl := Option.some.inj hd; exact ⟨rfl, trivial⟩)
                · intro Q ρ I1 H hI1 hk hpost
                  obtain ⟨_, _, -⟩ := hk
                  have hc := Mem.le.refl I1
                  refine pkT rfl rfl rfl ?_
                  refine WL.nil ?_
                  exact hpost _ _ hc rfl _ (fun _ hd => by obtain rfl := Option.some.inj hd; exact ⟨rfl, trivial⟩)
                · intro Q ρ I1 H hI1 hk hpost
                  obtain ⟨_, -⟩ := hk
                  have hc := Mem.le.refl I1
                  refine mv rfl rfl ?_
                  refine WL.nil ?_
                  exact hpost _ _ hc (bt1 k125) _ (fun _ hd => by obtain rfl := Option.some.inj hd; exact ⟨rfl, trivial⟩)
                · intro Q ρ I1 H hI1 hk hpost
                  obtain ⟨_, -⟩ := hk
                  have hc := Mem.le.refl I1
                  refine WL.on rfl rfl ?_
                  refine call cl33 rfl rfl (W33 e127) (fun _ J128 _ hJ129 q130 => ?_)
                  have hc := hc.trans hJ129
                  obtain ⟨rfl, rfl⟩ := q130
                  refine WL.nil ?_
                  exact hpost _ _ hc rfl _ (fun _ hd => by obtain rfl := Option.some.inj hd; exact ⟨rfl, trivial⟩)
                · intro Q ρ I1 H hI1 hk hpost
                  obtain ⟨_, _, -⟩ := hk
                  have hc := Mem.le.refl I1
                  refine pkT rfl rfl rfl ?_
                  refine WL.nil ?_
                  exact hpost _ _ hc rfl _ (fun _ hd => by obtain rfl := Option.some.inj hd; exact ⟨rfl, trivial⟩)
                · intro Q ρ I1 H hI1 hk hpost
                  obtain ⟨_, -⟩ := hk
                  have hc := Mem.le.refl I1
                  refine asg rfl rfl ?_
                  refine WL.nil ?_
                  exact hpost _ _ hc rfl _ (fun _ hd => by obtain rfl := Option.some.inj hd; exact ⟨rfl, trivial⟩)
                rintro ρ J131 hJ132 -
                refine WX.sub (r := [(8, (.bool x126))]) ?_ ⟨rfl, trivial⟩
                refine WX.is (H := bl q27 #[(.int .i64 x5.Kind), (.int .i64 x5.Path), (.int .i64 x5.Number), (.int .i64 x5.Of), (.int .i64 x5.From), (.slice q29 x5.Data.length q30), (.bool x5.Fin), (.int .i64 x5.Seen), (.int .i64 x5.Limit)] 41 :: bl q28 #[(.int .i64 x13.Kind), (.int .i64 x13.Path), (.int .i64 x13.Number), (.int .i64 x13.Of), (.int .i64 x13.From), (.slice q32 x13.Data.length q33), (.bool x13.Fin), (.int .i64 x13.Seen), (.int .i64 x13.Limit)] 41 :: G) rfl ?_
                have hI := hI.trans hJ132
                replace q31 := q31.up hJ132; replace q34 := q34.up hJ132
                refine WX.then_ ?_
                refine WC.ret ?_
                cases h
                refine WX.del 0 ?_
                refine WX.del 0 ?_
                exact ret1 Try.results7 rfl hI ⟨rfl, rfl⟩
              refine WC.front 5 ?_
              refine WC.front 1 ?_
              refine WC.front 2 ?_
              refine WC.front 3 ?_
              refine WC.front 4 ?_
              refine WC.front 5 ?_
              refine WC.drawn mo (nthL [[], [], [0, 1], [0, 1, 2], [0, 1, 2, 3], [0, 1, 2, 3], [0, 1, 2, 3, 4, 5], [0, 1, 2, 3, 4, 5, 6], [0, 1, 2, 3, 4, 5, 6, 7], [0, 1, 2, 3, 4, 5, 6, 7, 8], [0, 1, 2, 3, 4, 5, 6, 7, 8, 9], [0, 1, 2, 3, 4, 5, 6, 7, 8], [0, 1, 2, 3, 4, 5, 6, 7, 8, 9, 10, 11], [0, 1, 2, 3, 4, 5, 6, 7, 8, 9, 10, 11, 12], [0, 1, 2, 3, 4, 5, 6, 7, 8, 9, 10, 11, 12, 13], [0, 1, 2, 3, 4, 5, 6, 7, 8, 9, 10, 11, 12, 13, 14], [0, 1, 2, 3, 4, 5, 6, 7, 8, 9, 10, 11, 12, 13, 14], [0, 1, 2, 3, 4, 5, 6, 7, 8, 9, 10, 11, 12, 13, 14, 15, 16], [0, 1, 2, 3, 4, 5, 6, 7, 8, 9, 10, 11, 12, 13, 14, 15, 16, 17], [0, 1, 2, 3, 4, 5, 6, 7, 8, 9, 10, 11, 12, 13, 14, 15, 16, 17, 18], [0, 1, 2, 3, 4, 5, 6, 7, 8, 9, 10, 11, 12, 13, 14, 15, 16, 17, 18, 19], [0, 1, 2, 3, 4, 5, 6, 7, 8, 9, 10, 11, 12, 13, 14, 15, 16, 17, 18, 19], [0, 1, 2, 3, 4, 5, 6, 7, 8, 9, 10, 11, 12, 13, 14, 15, 16, 17, 18, 19, 20, 21], [0, 1, 2, 3, 4, 5, 6, 7, 8, 9, 10, 11, 12, 13, 14, 15, 16, 17, 18, 19, 20, 21, 22], [0, 1, 2, 3, 4, 5, 6, 7, 8, 9, 10, 11, 12, 13, 14, 15, 16, 17, 18, 19, 20, 21, 22, 23], [0, 1, 2, 3, 4, 5, 6, 7, 8, 9, 10, 11, 12, 13, 14, 15, 16, 17, 18, 19, 20, 21, 22, 23, 24], [0, 1, 2, 3, 4, 5, 6, 7, 8, 9, 10, 11, 12, 13, 14, 15, 16, 17, 18, 19, 20, 21, 22, 23, 24], [0, 1, 2, 3, 4, 5, 6, 7, 8, 9, 10, 11, 12, 13, 14, 15, 16, 17, 18, 19, 20, 21, 22, 23, 24, 25, 26], [0, 1, 2, 3, 4, 5, 6, 7, 8, 9, 10, 11, 12, 13, 14, 15, 16, 17, 18, 19, 20, 21, 22, 23, 24], [0, 1, 2, 3, 4, 5, 6, 7, 8, 9, 10, 11, 12, 13, 14, 15, 16, 17, 18, 19, 20, 21, 22, 23, 24], [0, 1, 2, 3, 4, 5, 6, 7, 8, 9, 10, 11, 12, 13, 14, 15, 16, 17, 18, 19, 20, 21, 22, 23, 24, 25, 26, 27, 28, 29], [0, 1, 2, 3, 4, 5, 6, 7, 8, 9, 10, 11, 12, 13, 14, 15, 16, 17, 18, 19, 20, 21, 22, 23, 24, 25, 26, 27, 28, 29, 30], [0, 1, 2, 3, 4, 5, 6, 7, 8, 9, 10, 11, 12, 13, 14, 15, 16, 17, 18, 19, 20, 21, 22, 23, 24, 25, 26, 27, 28, 29, 30, 31], [0, 1, 2, 3, 4, 5, 6, 7, 8, 9, 10, 11, 12, 13, 14, 15, 16, 17, 18, 19, 20, 21, 22, 23, 24, 25, 26, 27, 28, 29, 30, 31, 32], [0, 1, 2, 3, 4, 5, 6, 7, 8, 9, 10, 11, 12, 13, 14, 15, 16, 17, 18, 19, 20, 21, 22, 23, 24, 25, 26, 27, 28, 29, 30, 31, 32, 33], [0, 1, 2, 3, 4, 5, 6, 7, 8, 9, 10, 11, 12, 13, 14, 15, 16, 17, 18, 19, 20, 21, 22, 23, 24, 25, 26, 27, 28, 29, 30, 31, 32, 33], [0, 1, 2, 3, 4, 5, 6, 7, 8, 9, 10, 11, 12, 13, 14, 15, 16, 17, 18, 19, 20, 21, 22, 23, 24, 25, 26, 27, 28, 29, 30, 31, 32, 33, 34, 35], [0, 1, 2, 3, 4, 5, 6, 7, 8, 9, 10, 11, 12, 13, 14, 15, 16, 17, 18, 19, 20, 21, 22, 23, 24, 25, 26, 27, 28, 29, 30, 31, 32, 33, 34, 35, 36], [0, 1, 2, 3, 4, 5, 6, 7, 8, 9, 10, 11, 12, 13, 14, 15, 16, 17, 18, 19, 20, 21, 22, 23, 24, 25, 26, 27, 28, 29, 30, 31, 32, 33, 34, 35, 36, 37], [0, 1, 2, 3, 4, 5, 6, 7, 8, 9, 10, 11, 12, 13, 14, 15, 16, 17, 18, 19, 20, 21, 22, 23, 24, 25, 26, 27, 28, 29, 30, 31, 32, 33, 34, 35, 36, 37, 38], [0, 1, 2, 3, 4, 5, 6, 7, 8, 9, 10, 11, 12, 13, 14, 15, 16, 17, 18, 19, 20, 21, 22, 23, 24, 25, 26, 27, 28, 29, 30, 31, 32, 33, 34, 35, 36, 37, 38, 39], [0, 1, 2, 3, 4, 5, 6, 7, 8, 9, 10, 11, 12, 13, 14, 15, 16, 17, 18, 19, 20, 21, 22, 23, 24, 25, 26, 27, 28, 29, 30, 31, 32, 33, 34, 35, 36, 37, 38, 39, 40]]) (nthL [[], [], [0, 1], [2], [3], [3], [3, 4, 5], [3, 6], [7], [8], [8, 9], [8], [8, 10, 11], [8, 12], [13], [14], [14], [14, 15, 16], [14, 17], [18], [19], [19], [19, 20, 21], [19, 22], [23], [24], [24], [24, 25, 26], [24], [24], [24, 28, 29], [24, 27, 30], [24, 31], [32], [33], [33], [33, 34, 35], [33, 36], [37], [38], [38, 39], [40]]) (nthK [.val (.int .i64 x36), .val (.int .i64 x72), .val (.bool (decide (x36 = x72))), .val (.bool true), .val (.int .i64 x54), .val (.int .i64 x72), .val (.bool (decide (x54 = x72))), .val (.bool (decide (x54 = x72))), .val (.bool true), .val (.agg #[(.int .i64 x5.Kind), (.int .i64 x5.Path), (.int .i64 x5.Number), (.int .i64 x5.Of), (.int .i64 x5.From), (.slice q29 x5.Data.length q30), (.bool x5.Fin), (.int .i64 x5.Seen), (.int .i64 x5.Limit)]), .val (.int .i64 x79), .val (.int .i64 x72), .val (.bool (decide (x79 = x72))), .val (.bool (decide (x79 = x72))), .val (.bool true), .val (.slice a41 x35.length c42), .val (.slice a50 x44.length c51), .val (.bool x91), .val (.bool x91), .val (.bool true), .val (.slice a59 x53.length c60), .val (.slice a68 x62.length c69), .val (.bool x103), .val (.bool x103), .val (.bool true), .val (.agg #[(.int .i64 x5.Kind), (.int .i64 x5.Path), (.int .i64 x5.Number), (.int .i64 x5.Of), (.int .i64 x5.From), (.slice q29 x5.Data.length q30), (.bool x5.Fin), (.int .i64 x5.Seen), (.int .i64 x5.Limit)]), .val (.agg #[(.int .i64 x13.Kind), (.int .i64 x13.Path), (.int .i64 x13.Number), (.int .i64 x13.Of), (.int .i64 x13.From), (.slice q32 x13.Data.length q33), (.bool x13.Fin), (.int .i64 x13.Seen), (.int .i64 x13.Limit)]), .val (.bool x109), .val (.agg #[(.int .i64 x5.Kind), (.int .i64 x5.Path), (.int .i64 x5.Number), (.int .i64 x5.Of), (.int .i64 x5.From), (.slice q29 x5.Data.length q30), (.bool x5.Fin), (.int .i64 x5.Seen), (.int .i64 x5.Limit)]), .val (.agg #[(.int .i64 x13.Kind), (.int .i64 x13.Path), (.int .i64 x13.Number), (.int .i64 x13.Of), (.int .i64 x13.From), (.slice q32 x13.Data.length q33), (.bool x13.Fin), (.int .i64 x13.Seen), (.int .i64 x13.Limit)]), .val (.bool x114), .val (.bool (x109 == x114)), .val (.bool (x109 == x114)), .val (.bool true), .val (.agg #[(.int .i64 x13.Kind), (.int .i64 x13.Path), (.int .i64 x13.Number), (.int .i64 x13.Of), (.int .i64 x13.From), (.slice q32 x13.Data.length q33), (.bool x13.Fin), (.int .i64 x13.Seen), (.int .i64 x13.Limit)]), .val (.agg #[(.int .i64 x13.Kind), (.int .i64 x13.Path), (.int .i64 x13.Number), (.int .i64 x13.Of), (.int .i64 x13.From), (.slice q32 x13.Data.length q33), (.bool x13.Fin), (.int .i64 x13.Seen), (.int .i64 x13.Limit)]), .val (.bool x120), .val (.bool x120), .val (.bool false), .val undef, .val (.bool false), .val (.bool false)]) [⟨none, none, [9, 25, 28], [], fun _ => bl q27 #[(.int .i64 x5.Kind), (.int .i64 x5.Path), (.int .i64 x5.Number), (.int .i64 x5.Of), (.int .i64 x5.From), (.slice q29 x5.Data.length q30), (.bool x5.Fin), (.int .i64 x5.Seen), (.int .i64 x5.Limit)] 41⟩, ⟨none, (some 17), [], [], fun _ => OV 5 (.slice a41 x35.length c42) x35⟩, ⟨none, (some 17), [], [], fun _ => OV 5 (.slice a50 x44.length c51) x44⟩, ⟨none, (some 22), [], [], fun _ => OV 5 (.slice a59 x53.length c60) x53⟩, ⟨none, (some 22), [], [], fun _ => OV 5 (.slice a68 x62.length c69) x62⟩, ⟨none, none, [26, 29, 34, 35], [], fun _ => bl q28 #[(.int .i64 x13.Kind), (.int .i64 x13.Path), (.int .i64 x13.Number), (.int .i64 x13.Of), (.int .i64 x13.From), (.slice q32 x13.Data.length q33), (.bool x13.Fin), (.int .i64 x13.Seen), (.int .i64 x13.Limit)] 41⟩] (by kernel_rfl) (by kernel_rfl) (by kernel_rfl) (H := G) rfl ⟨?_, ?_, ?_, ?_, ?_, ?_, ?_, ?_, ?_, ?_, ?_, ?_, ?_, ?_, ?_, ?_, ?_, ?_, ?_, ?_, ?_, ?_, ?_, ?_, ?_, ?_, ?_, ?_, ?_, ?_, ?_, ?_, ?_, ?_, ?_, ?_, ?_, ?_, ?_, ?_, ?_, ?_, trivial⟩ ?_
              · intro Q ρ I1 H hI1 hk hpost
                have hc := Mem.le.refl I1
                refine mv rfl rfl ?_
                refine WL.nil ?_
                exact hpost _ _ hc rfl _ (fun _ hd => by obtain rfl := Option.some.inj hd; exact ⟨rfl, trivial⟩)
              · intro Q ρ I1 H hI1 hk hpost
                have hc := Mem.le.refl I1
                refine mv rfl rfl ?_
                refine WL.nil ?_
                exact hpost _ _ hc rfl _ (fun _ hd => by obtain rfl := Option.some.inj hd; exact ⟨rfl, trivial⟩)
              · intro Q ρ I1 H hI1 hk hpost
                obtain ⟨_, _, -⟩ := hk
                have hc := Mem.le.refl I1
                refine eq rfl rfl rfl ?_
                refine WL.nil ?_
                exact hpost _ _ hc rfl _ (fun _ hd => by obtain rfl := Option.some.inj hd; exact ⟨rfl, trivial⟩)
              · intro Q ρ I1 H hI1 hk hpost
                obtain ⟨_, -⟩ := hk
                have hc := Mem.le.refl I1
                refine mv rfl rfl ?_
                refine WL.nil ?_
                exact hpost _ _ hc (bT k77) _ (fun _ hd => by obtain rfl := Option.some.inj hd; exact ⟨rfl, trivial⟩)
              · intro Q ρ I1 H hI1 hk hpost
                obtain ⟨_, -⟩ := hk
                have hc := Mem.le.refl I1
                refine WL.on rfl rfl ?_
                refine mv rfl rfl ?_
                refine WL.nil ?_
                exact hpost _ _ hc rfl _ (fun _ hd => by obtain rfl := Option.some.inj hd; exact ⟨rfl, trivial⟩)
              · intro Q ρ I1 H hI1 hk hpost
                obtain ⟨_, -⟩ := hk
                have hc := Mem.le.refl I1
                refine WL.on rfl rfl ?_
                refine mv rfl rfl ?_
                refine WL.nil ?_
                exact hpost _ _ hc rfl _ (fun _ hd => by obtain rfl := Option.some.inj hd; exact ⟨rfl, trivial⟩)
              · intro Q ρ I1 H hI1 hk hpost
                obtain ⟨_, _, _, -⟩ := hk
                have hc := Mem.le.refl I1
                refine WL.on rfl rfl ?_
                refine eq rfl rfl rfl ?_
                refine WL.nil ?_
                exact hpost _ _ hc rfl _ (fun _ hd => by obtain rfl := Option.some.inj hd; exact ⟨rfl, trivial⟩)
              · intro Q ρ I1 H hI1 hk hpost
                obtain ⟨_, _, -⟩ := hk
                have hc := Mem.le.refl I1
                refine pkT rfl rfl rfl ?_
                refine WL.nil ?_
                exact hpost _ _ hc rfl _ (fun _ hd => by obtain rfl := Option.some.inj hd; exact ⟨rfl, trivial⟩)
              · intro Q ρ I1 H hI1 hk hpost
                obtain ⟨_, -⟩ := hk
                have hc := Mem.le.refl I1
                refine mv rfl rfl ?_
                refine WL.nil ?_
                exact hpost _ _ hc (bT k78) _ (fun _ hd => by obtain rfl := Option.some.inj hd; exact ⟨rfl, trivial⟩)
              · intro Q ρ I1 H hI1 hk hpost
                obtain ⟨_, -⟩ := hk
                have hc := Mem.le.refl I1
                refine WL.on rfl rfl ?_
                refine lda 0 ya41 rfl rfl rfl rfl rfl ?_
                refine WL.nil ?_
                exact hpost _ _ hc rfl _ (fun _ hd => by obtain rfl := Option.some.inj hd; exact ⟨rfl, trivial⟩)
              · intro Q ρ I1 H hI1 hk hpost
                obtain ⟨_, _, -⟩ := hk
                replace q31 := q31.up hI1
                have hc := Mem.le.refl I1
                refine WL.on rfl rfl ?_
                refine call cl32 rfl rfl (W32 e80 q31) (fun _ J81 _ hJ82 q83 => ?_)
                have hc := hc.trans hJ82
                replace q31 := q31.up hJ82
                obtain ⟨rfl, rfl⟩ := q83
                refine WL.nil ?_
                exact hpost _ _ hc rfl _ (fun _ hd => by obtain rfl := Option.some.inj hd; exact ⟨rfl, trivial⟩)
              · intro Q ρ I1 H hI1 hk hpost
                obtain ⟨_, -⟩ := hk
                have hc := Mem.le.refl I1
                refine WL.on rfl rfl ?_
                refine mv rfl rfl ?_
                refine WL.nil ?_
                exact hpost _ _ hc rfl _ (fun _ hd => by obtain rfl := Option.some.inj hd; exact ⟨rfl, trivial⟩)
              · intro Q ρ I1 H hI1 hk hpost
                obtain ⟨_, _, _, -⟩ := hk
                have hc := Mem.le.refl I1
                refine WL.on rfl rfl ?_
                refine eq rfl rfl rfl ?_
                refine WL.nil ?_
                exact hpost _ _ hc rfl _ (fun _ hd => by obtain rfl := Option.some.inj hd; exact ⟨rfl, trivial⟩)
              · intro Q ρ I1 H hI1 hk hpost
                obtain ⟨_, _, -⟩ := hk
                have hc := Mem.le.refl I1
                refine pkT rfl rfl rfl ?_
                refine WL.nil ?_
                exact hpost _ _ hc rfl _ (fun _ hd => by obtain rfl := Option.some.inj hd; exact ⟨rfl, trivial⟩)
              · intro Q ρ I1 H hI1 hk hpost
                obtain ⟨_, -⟩ := hk
                have hc := Mem.le.refl I1
                refine mv rfl rfl ?_
                refine WL.nil ?_
                exact hpost _ _ hc (bT k84) _ (fun _ hd => by obtain rfl := Option.some.inj hd; exact ⟨rfl, trivial⟩)
              · intro Q ρ I1 H hI1 hk hpost
                obtain ⟨_, -⟩ := hk
                have hc := Mem.le.refl I1
                refine WL.on rfl rfl ?_
                refine mv rfl rfl ?_
                refine WL.nil ?_
                exact hpost _ _ hc rfl _ (fun _ hd => by obtain rfl := Option.some.inj hd; exact ⟨rfl, trivial⟩)
              · intro Q ρ I1 H hI1 hk hpost
                obtain ⟨_, -⟩ := hk
                have hc := Mem.le.refl I1
                refine WL.on rfl rfl ?_
                refine mv rfl rfl ?_
                refine WL.nil ?_
                exact hpost _ _ hc rfl _ (fun _ hd => by obtain rfl := Option.some.inj hd; exact ⟨rfl, trivial⟩)
              · intro Q ρ I1 H hI1 hk hpost
                obtain ⟨_, _, _, -⟩ := hk
                have hc := Mem.le.refl I1
                refine WL.on rfl rfl ?_
                refine WL.freeze (fun J85 hJ86 h87 => ?_)
                have hc := hc.trans hJ86
                refine WL.freeze (fun J88 hJ89 h90 => ?_)
                have hc := hc.trans hJ89
                replace h87 := h87.up hJ89
                refine call cl17 rfl rfl (W17 e92 h87 h90) (fun _ J93 _ hJ94 q95 => ?_)
                have hc := hc.trans hJ94
                replace h87 := h87.up hJ94; replace h90 := h90.up hJ94
                obtain ⟨rfl, rfl⟩ := q95
                refine WL.nil ?_
                exact hpost _ _ hc rfl _ (fun _ hd => by obtain rfl := Option.some.inj hd; exact ⟨rfl, trivial⟩)
              · intro Q ρ I1 H hI1 hk hpost
                obtain ⟨_, _, -⟩ := hk
                have hc := Mem.le.refl I1
                refine pkT rfl rfl rfl ?_
                refine WL.nil ?_
                exact hpost _ _ hc rfl _ (fun _ hd => by obtain rfl := Option.some.inj hd; exact ⟨rfl, trivial⟩)
              · intro Q ρ I1 H hI1 hk hpost
                obtain ⟨_, -⟩ := hk
                have hc := Mem.le.refl I1
                refine mv rfl rfl ?_
                refine WL.nil ?_
                exact hpost _ _ hc (bt1 k96) _ (fun _ hd => by obtain rfl := Option.some.inj hd; exact ⟨rfl, trivial⟩)
              · intro Q ρ I1 H hI1 hk hpost
                obtain ⟨_, -⟩ := hk
                have hc := Mem.le.refl I1
                refine WL.on rfl rfl ?_
                refine mv rfl rfl ?_
                refine WL.nil ?_
                exact hpost _ _ hc rfl _ (fun _ hd => by obtain rfl := Option.some.inj hd; exact ⟨rfl, trivial⟩)
              · intro Q ρ I1 H hI1 hk hpost
                obtain ⟨_, -⟩ := hk
                have hc := Mem.le.refl I1
                refine WL.on rfl rfl ?_
                refine mv rfl rfl ?_
                refine WL.nil ?_
                exact hpost _ _ hc rfl _ (fun _ hd => by obtain rfl := Option.some.inj hd; exact ⟨rfl, trivial⟩)
              · intro Q ρ I1 H hI1 hk hpost
                obtain ⟨_, _, _, -⟩ := hk
                have hc := Mem.le.refl I1
                refine WL.on rfl rfl ?_
                refine WL.freeze (fun J97 hJ98 h99 => ?_)
                have hc := hc.trans hJ98
                refine WL.freeze (fun J100 hJ101 h102 => ?_)
                have hc := hc.trans hJ101
                replace h99 := h99.up hJ101
                refine call cl17 rfl rfl (W17 e104 h99 h102) (fun _ J105 _ hJ106 q107 => ?_)
                have hc := hc.trans hJ106
                replace h99 := h99.up hJ106; replace h102 := h102.up hJ106
                obtain ⟨rfl, rfl⟩ := q107
                refine WL.nil ?_
                exact hpost _ _ hc rfl _ (fun _ hd => by obtain rfl := Option.some.inj hd; exact ⟨rfl, trivial⟩)
              · intro Q ρ I1 H hI1 hk hpost
                obtain ⟨_, _, -⟩ := hk
                have hc := Mem.le.refl I1
                refine pkT rfl rfl rfl ?_
                refine WL.nil ?_
                exact hpost _ _ hc rfl _ (fun _ hd => by obtain rfl := Option.some.inj hd; exact ⟨rfl, trivial⟩)
              · intro Q ρ I1 H hI1 hk hpost
                obtain ⟨_, -⟩ := hk
                have hc := Mem.le.refl I1
                refine mv rfl rfl ?_
                refine WL.nil ?_
                exact hpost _ _ hc (bt1 k108) _ (fun _ hd => by obtain rfl := Option.some.inj hd; exact ⟨rfl, trivial⟩)
              · intro Q ρ I1 H hI1 hk hpost
                obtain ⟨_, -⟩ := hk
                have hc := Mem.le.refl I1
                refine WL.on rfl rfl ?_
                refine lda 0 ya41 rfl rfl rfl rfl rfl ?_
                refine WL.nil ?_
                exact hpost _ _ hc rfl _ (fun _ hd => by obtain rfl := Option.some.inj hd; exact ⟨rfl, trivial⟩)
              · intro Q ρ I1 H hI1 hk hpost
                obtain ⟨_, -⟩ := hk
                have hc := Mem.le.refl I1
                refine WL.on rfl rfl ?_
                refine lda 0 ya41 rfl rfl rfl rfl rfl ?_
                refine WL.nil ?_
                exact hpost _ _ hc rfl _ (fun _ hd => by obtain rfl := Option.some.inj hd; exact ⟨rfl, trivial⟩)
              · intro Q ρ I1 H hI1 hk hpost
                obtain ⟨_, _, _, -⟩ := hk
                replace q31 := q31.up hI1; replace q34 := q34.up hI1
                have hc := Mem.le.refl I1
                refine WL.on rfl rfl ?_
                refine call cl37 rfl rfl (W37 e110 q31 q34) (fun _ J111 _ hJ112 q113 => ?_)
                have hc := hc.trans hJ112
                replace q31 := q31.up hJ112; replace q34 := q34.up hJ112
                obtain ⟨rfl, rfl⟩ := q113
                refine WL.nil ?_
                exact hpost _ _ hc rfl _ (fun _ hd => by obtain rfl := Option.some.inj hd; exact ⟨rfl, trivial⟩)
              · intro Q ρ I1 H hI1 hk hpost
                obtain ⟨_, -⟩ := hk
                have hc := Mem.le.refl I1
                refine WL.on rfl rfl ?_
                refine lda 0 ya41 rfl rfl rfl rfl rfl ?_
                refine WL.nil ?_
                exact hpost _ _ hc rfl _ (fun _ hd => by obtain rfl := Option.some.inj hd; exact ⟨rfl, trivial⟩)
              · intro Q ρ I1 H hI1 hk hpost
                obtain ⟨_, -⟩ := hk
                have hc := Mem.le.refl I1
                refine WL.on rfl rfl ?_
                refine lda 0 ya41 rfl rfl rfl rfl rfl ?_
                refine WL.nil ?_
                exact hpost _ _ hc rfl _ (fun _ hd => by obtain rfl := Option.some.inj hd; exact ⟨rfl, trivial⟩)
              · intro Q ρ I1 H hI1 hk hpost
                obtain ⟨_, _, _, -⟩ := hk
                replace q31 := q31.up hI1; replace q34 := q34.up hI1
                have hc := Mem.le.refl I1
                refine WL.on rfl rfl ?_
                refine call cl38 rfl rfl (W38 e115 q31 q34) (fun _ J116 _ hJ117 q118 => ?_)
                have hc := hc.trans hJ117
                replace q31 := q31.up hJ117; replace q34 := q34.up hJ117
                obtain ⟨rfl, rfl⟩ := q118
                refine WL.nil ?_
                exact hpost _ _ hc rfl _ (fun _ hd => by obtain rfl := Option.some.inj hd; exact ⟨rfl, trivial⟩)
              · intro Q ρ I1 H hI1 hk hpost
                obtain ⟨_, _, _, -⟩ := hk
                have hc := Mem.le.refl I1
                refine WL.on rfl rfl ?_
                refine be Try.underlying4 rfl rfl rfl ?_
                refine WL.nil ?_
                exact hpost _ _ hc rfl _ (fun _ hd => by obtain rfl := Option.some.inj hd; exact ⟨rfl, trivial⟩)
              · intro Q ρ I1 H hI1 hk hpost
                obtain ⟨_, _, -⟩ := hk
                have hc := Mem.le.refl I1
                refine pkT rfl rfl rfl ?_
                refine WL.nil ?_
                exact hpost _ _ hc rfl _ (fun _ hd => by obtain rfl := Option.some.inj hd; exact ⟨rfl, trivial⟩)
              · intro Q ρ I1 H hI1 hk hpost
                obtain ⟨_, -⟩ := hk
                have hc := Mem.le.refl I1
                refine mv rfl rfl ?_
                refine WL.nil ?_
                exact hpost _ _ hc (bt1 k119) _ (fun _ hd => by obtain rfl := Option.some.inj hd; exact ⟨rfl, trivial⟩)
              · intro Q ρ I1 H hI1 hk hpost
                obtain ⟨_, -⟩ := hk
                have hc := Mem.le.refl I1
                refine WL.on rfl rfl ?_
                refine lda 0 ya41 rfl rfl rfl rfl rfl ?_
                refine WL.nil ?_
                exact hpost _ _ hc rfl _ (fun _ hd => by obtain rfl := Option.some.inj hd; exact ⟨rfl, trivial⟩)
              · intro Q ρ I1 H hI1 hk hpost
                obtain ⟨_, -⟩ := hk
                have hc := Mem.le.refl I1
                refine WL.on rfl rfl ?_
                refine lda 0 ya41 rfl rfl rfl rfl rfl ?_
                refine WL.nil ?_
                exact hpost _ _ hc rfl _ (fun _ hd => by obtain rfl := Option.some.inj hd; exact ⟨rfl, trivial⟩)
              · intro Q ρ I1 H hI1 hk hpost
                obtain ⟨_, _, _, -⟩ := hk
                replace q34 := q34.up hI1
                have hc := Mem.le.refl I1
                refine WL.on rfl rfl ?_
                refine call cl37 rfl rfl (W37 e121 q34 q34) (fun _ J122 _ hJ123 q124 => ?_)
                have hc := hc.trans hJ123
                replace q34 := q34.up hJ123
                obtain ⟨rfl, rfl⟩ := q124
                refine WL.nil ?_
                exact hpost _ _ hc rfl _ (fun _ hd => by obtain rfl := Option.some.inj hd; exact ⟨rfl, trivial⟩)
              · intro Q ρ I1 H hI1 hk hpost
                obtain ⟨_, _, -⟩ := hk
                have hc := Mem.le.refl I1
                refine pkT rfl rfl rfl ?_
                refine WL.nil ?_
                exact hpost _ _ hc rfl _ (fun _ hd => by obtain rfl := Option.some.inj hd; exact ⟨rfl, trivial⟩)
              · intro Q ρ I1 H hI1 hk hpost
                obtain ⟨_, -⟩ := hk
                have hc := Mem.le.refl I1
                refine mv rfl rfl ?_
                refine WL.nil ?_
                exact hpost _ _ hc (bf1 k125) _ (fun _ hd => by obtain rfl := Option.some.inj hd; exact ⟨rfl, trivial⟩)
              · intro Q ρ I1 H hI1 hk hpost
                obtain ⟨_, -⟩ := hk
                have hc := Mem.le.refl I1
                refine WL.no rfl rfl rfl rfl ?_
                refine WL.nil ?_
                exact hpost _ _ hc rfl _ (fun _ hd => by obtain rfl := Option.some.inj hd; exact ⟨rfl, trivial⟩)
              · intro Q ρ I1 H hI1 hk hpost
                obtain ⟨_, _, -⟩ := hk
                have hc := Mem.le.refl I1
                refine pkF rfl rfl rfl ?_
                refine WL.nil ?_
                exact hpost _ _ hc rfl _ (fun _ hd => by obtain rfl := Option.some.inj hd; exact ⟨rfl, trivial⟩)
              · intro Q ρ I1 H hI1 hk hpost
                obtain ⟨_, -⟩ := hk
                have hc := Mem.le.refl I1
                refine asg rfl rfl ?_
                refine WL.nil ?_
                exact hpost _ _ hc rfl _ (fun _ hd => by obtain rfl := Option.some.inj hd; exact ⟨rfl, trivial⟩)
              rintro ρ J133 hJ134 -
              refine WX.sub (r := [(8, (.bool false))]) ?_ ⟨rfl, trivial⟩
              refine WX.is (H := bl q27 #[(.int .i64 x5.Kind), (.int .i64 x5.Path), (.int .i64 x5.Number), (.int .i64 x5.Of), (.int .i64 x5.From), (.slice q29 x5.Data.length q30), (.bool x5.Fin), (.int .i64 x5.Seen), (.int .i64 x5.Limit)] 41 :: bl q28 #[(.int .i64 x13.Kind), (.int .i64 x13.Path), (.int .i64 x13.Number), (.int .i64 x13.Of), (.int .i64 x13.From), (.slice q32 x13.Data.length q33), (.bool x13.Fin), (.int .i64 x13.Seen), (.int .i64 x13.Limit)] 41 :: G) rfl ?_
              have hI := hI.trans hJ134
              replace q31 := q31.up hJ134; replace q34 := q34.up hJ134
              refine WX.then_ ?_
              refine WC.ret ?_
              cases h
              refine WX.del 0 ?_
              refine WX.del 0 ?_
              exact ret1 Try.results7 rfl hI ⟨rfl, rfl⟩
            refine WC.front 5 ?_
            refine WC.front 1 ?_
            refine WC.front 2 ?_
            refine WC.front 3 ?_
            refine WC.front 4 ?_
            refine WC.front 5 ?_
            refine WC.drawn mo (nthL [[], [], [0, 1], [0, 1, 2], [0, 1, 2, 3], [0, 1, 2, 3], [0, 1, 2, 3, 4, 5], [0, 1, 2, 3, 4, 5, 6], [0, 1, 2, 3, 4, 5, 6, 7], [0, 1, 2, 3, 4, 5, 6, 7, 8], [0, 1, 2, 3, 4, 5, 6, 7, 8, 9], [0, 1, 2, 3, 4, 5, 6, 7, 8], [0, 1, 2, 3, 4, 5, 6, 7, 8, 9, 10, 11], [0, 1, 2, 3, 4, 5, 6, 7, 8, 9, 10, 11, 12], [0, 1, 2, 3, 4, 5, 6, 7, 8, 9, 10, 11, 12, 13], [0, 1, 2, 3, 4, 5, 6, 7, 8, 9, 10, 11, 12, 13, 14], [0, 1, 2, 3, 4, 5, 6, 7, 8, 9, 10, 11, 12, 13, 14], [0, 1, 2, 3, 4, 5, 6, 7, 8, 9, 10, 11, 12, 13, 14, 15, 16], [0, 1, 2, 3, 4, 5, 6, 7, 8, 9, 10, 11, 12, 13, 14, 15, 16, 17], [0, 1, 2, 3, 4, 5, 6, 7, 8, 9, 10, 11, 12, 13, 14, 15, 16, 17, 18], [0, 1, 2, 3, 4, 5, 6, 7, 8, 9, 10, 11, 12, 13, 14, 15, 16, 17, 18, 19], [0, 1, 2, 3, 4, 5, 6, 7, 8, 9, 10, 11, 12, 13, 14, 15, 16, 17, 18, 19], [0, 1, 2, 3, 4, 5, 6, 7, 8, 9, 10, 11, 12, 13, 14, 15, 16, 17, 18, 19, 20, 21], [0, 1, 2, 3, 4, 5, 6, 7, 8, 9, 10, 11, 12, 13, 14, 15, 16, 17, 18, 19, 20, 21, 22], [0, 1, 2, 3, 4, 5, 6, 7, 8, 9, 10, 11, 12, 13, 14, 15, 16, 17, 18, 19, 20, 21, 22, 23], [0, 1, 2, 3, 4, 5, 6, 7, 8, 9, 10, 11, 12, 13, 14, 15, 16, 17, 18, 19, 20, 21, 22, 23, 24], [0, 1, 2, 3, 4, 5, 6, 7, 8, 9, 10, 11, 12, 13, 14, 15, 16, 17, 18, 19, 20, 21, 22, 23, 24], [0, 1, 2, 3, 4, 5, 6, 7, 8, 9, 10, 11, 12, 13, 14, 15, 16, 17, 18, 19, 20, 21, 22, 23, 24, 25, 26], [0, 1, 2, 3, 4, 5, 6, 7, 8, 9, 10, 11, 12, 13, 14, 15, 16, 17, 18, 19, 20, 21, 22, 23, 24], [0, 1, 2, 3, 4, 5, 6, 7, 8, 9, 10, 11, 12, 13, 14, 15, 16, 17, 18, 19, 20, 21, 22, 23, 24], [0, 1, 2, 3, 4, 5, 6, 7, 8, 9, 10, 11, 12, 13, 14, 15, 16, 17, 18, 19, 20, 21, 22, 23, 24, 25, 26, 27, 28, 29], [0, 1, 2, 3, 4, 5, 6, 7, 8, 9, 10, 11, 12, 13, 14, 15, 16, 17, 18, 19, 20, 21, 22, 23, 24, 25, 26, 27, 28, 29, 30], [0, 1, 2, 3, 4, 5, 6, 7, 8, 9, 10, 11, 12, 13, 14, 15, 16, 17, 18, 19, 20, 21, 22, 23, 24, 25, 26, 27, 28, 29, 30, 31], [0, 1, 2, 3, 4, 5, 6, 7, 8, 9, 10, 11, 12, 13, 14, 15, 16, 17, 18, 19, 20, 21, 22, 23, 24, 25, 26, 27, 28, 29, 30, 31, 32], [0, 1, 2, 3, 4, 5, 6, 7, 8, 9, 10, 11, 12, 13, 14, 15, 16, 17, 18, 19, 20, 21, 22, 23, 24, 25, 26, 27, 28, 29, 30, 31, 32, 33], [0, 1, 2, 3, 4, 5, 6, 7, 8, 9, 10, 11, 12, 13, 14, 15, 16, 17, 18, 19, 20, 21, 22, 23, 24, 25, 26, 27, 28, 29, 30, 31, 32, 33], [0, 1, 2, 3, 4, 5, 6, 7, 8, 9, 10, 11, 12, 13, 14, 15, 16, 17, 18, 19, 20, 21, 22, 23, 24, 25, 26, 27, 28, 29, 30, 31, 32, 33, 34, 35], [0, 1, 2, 3, 4, 5, 6, 7, 8, 9, 10, 11, 12, 13, 14, 15, 16, 17, 18, 19, 20, 21, 22, 23, 24, 25, 26, 27, 28, 29, 30, 31, 32, 33, 34, 35, 36], [0, 1, 2, 3, 4, 5, 6, 7, 8, 9, 10, 11, 12, 13, 14, 15, 16, 17, 18, 19, 20, 21, 22, 23, 24, 25, 26, 27, 28, 29, 30, 31, 32, 33, 34, 35, 36, 37], [0, 1, 2, 3, 4, 5, 6, 7, 8, 9, 10, 11, 12, 13, 14, 15, 16, 17, 18, 19, 20, 21, 22, 23, 24, 25, 26, 27, 28, 29, 30, 31, 32, 33, 34, 35, 36, 37, 38], [0, 1, 2, 3, 4, 5, 6, 7, 8, 9, 10, 11, 12, 13, 14, 15, 16, 17, 18, 19, 20, 21, 22, 23, 24, 25, 26, 27, 28, 29, 30, 31, 32, 33, 34, 35, 36, 37, 38, 39], [0, 1, 2, 3, 4, 5, 6, 7, 8, 9, 10, 11, 12, 13, 14, 15, 16, 17, 18, 19, 20, 21, 22, 23, 24, 25, 26, 27, 28, 29, 30, 31, 32, 33, 34, 35, 36, 37, 38, 39, 40]]) (nthL [[], [], [0, 1], [2], [3], [3], [3, 4, 5], [3, 6], [7], [8], [8, 9], [8], [8, 10, 11], [8, 12], [13], [14], [14], [14, 15, 16], [14, 17], [18], [19], [19], [19, 20, 21], [19, 22], [23], [24], [24], [24, 25, 26], [24], [24], [24, 28, 29], [24, 27, 30], [24, 31], [32], [33], [33], [33], [33, 36], [37], [38], [38, 39], [40]]) (nthK [.val (.int .i64 x36), .val (.int .i64 x72), .val (.bool (decide (x36 = x72))), .val (.bool true), .val (.int .i64 x54), .val (.int .i64 x72), .val (.bool (decide (x54 = x72))), .val (.bool (decide (x54 = x72))), .val (.bool true), .val (.agg #[(.int .i64 x5.Kind), (.int .i64 x5.Path), (.int .i64 x5.Number), (.int .i64 x5.Of), (.int .i64 x5.From), (.slice q29 x5.Data.length q30), (.bool x5.Fin), (.int .i64 x5.Seen), (.int .i64 x5.Limit)]), .val (.int .i64 x79), .val (.int .i64 x72), .val (.bool (decide (x79 = x72))), .val (.bool (decide (x79 = x72))), .val (.bool true), .val (.slice a41 x35.length c42), .val (.slice a50 x44.length c51), .val (.bool x91), .val (.bool x91), .val (.bool true), .val (.slice a59 x53.length c60), .val (.slice a68 x62.length c69), .val (.bool x103), .val (.bool x103), .val (.bool true), .val (.agg #[(.int .i64 x5.Kind), (.int .i64 x5.Path), (.int .i64 x5.Number), (.int .i64 x5.Of), (.int .i64 x5.From), (.slice q29 x5.Data.length q30), (.bool x5.Fin), (.int .i64 x5.Seen), (.int .i64 x5.Limit)]), .val (.agg #[(.int .i64 x13.Kind), (.int .i64 x13.Path), (.int .i64 x13.Number), (.int .i64 x13.Of), (.int .i64 x13.From), (.slice q32 x13.Data.length q33), (.bool x13.Fin), (.int .i64 x13.Seen), (.int .i64 x13.Limit)]), .val (.bool x109), .val (.agg #[(.int .i64 x5.Kind), (.int .i64 x5.Path), (.int .i64 x5.Number), (.int .i64 x5.Of), (.int .i64 x5.From), (.slice q29 x5.Data.length q30), (.bool x5.Fin), (.int .i64 x5.Seen), (.int .i64 x5.Limit)]), .val (.agg #[(.int .i64 x13.Kind), (.int .i64 x13.Path), (.int .i64 x13.Number), (.int .i64 x13.Of), (.int .i64 x13.From), (.slice q32 x13.Data.length q33), (.bool x13.Fin), (.int .i64 x13.Seen), (.int .i64 x13.Limit)]), .val (.bool x114), .val (.bool (x109 == x114)), .val (.bool (x109 == x114)), .val (.bool false), .val undef, .val undef, .val undef, .val (.bool false), .val (.bool false), .val undef, .val (.bool false), .val (.bool false)]) [⟨none, none, [9, 25, 28], [], fun _ => bl q27 #[(.int .i64 x5.Kind), (.int .i64 x5.Path), (.int .i64 x5.Number), (.int .i64 x5.Of), (.int .i64 x5.From), (.slice q29 x5.Data.length q30), (.bool x5.Fin), (.int .i64 x5.Seen), (.int .i64 x5.Limit)] 41⟩, ⟨none, (some 17), [], [], fun _ => OV 5 (.slice a41 x35.length c42) x35⟩, ⟨none, (some 17), [], [], fun _ => OV 5 (.slice a50 x44.length c51) x44⟩, ⟨none, (some 22), [], [], fun _ => OV 5 (.slice a59 x53.length c60) x53⟩, ⟨none, (some 22), [], [], fun _ => OV 5 (.slice a68 x62.length c69) x62⟩, ⟨none, none, [26, 29], [], fun _ => bl q28 #[(.int .i64 x13.Kind), (.int .i64 x13.Path), (.int .i64 x13.Number), (.int .i64 x13.Of), (.int .i64 x13.From), (.slice q32 x13.Data.length q33), (.bool x13.Fin), (.int .i64 x13.Seen), (.int .i64 x13.Limit)] 41⟩] (by kernel_rfl) (by kernel_rfl) (by kernel_rfl) (H := G) rfl ⟨?_, ?_, ?_, ?_, ?_, ?_, ?_, ?_, ?_, ?_, ?_, ?_, ?_, ?_, ?_, ?_, ?_, ?_, ?_, ?_, ?_, ?_, ?_, ?_, ?_, ?_, ?_, ?_, ?_, ?_, ?_, ?_, ?_, ?_, ?_, ?_, ?_, ?_, ?_, ?_, ?_, ?_, trivial⟩ ?_
            · intro Q ρ I1 H hI1 hk hpost
              have hc := Mem.le.refl I1
              refine mv rfl rfl ?_
              refine WL.nil ?_
              exact hpost _ _ hc rfl _ (fun _ hd => by obtain rfl := Option.some.inj hd; exact ⟨rfl, trivial⟩)
            · intro Q ρ I1 H hI1 hk hpost
              have hc := Mem.le.refl I1
              refine mv rfl rfl ?_
              refine WL.nil ?_
              exact hpost _ _ hc rfl _ (fun _ hd => by obtain rfl := Option.some.inj hd; exact ⟨rfl, trivial⟩)
            · intro Q ρ I1 H hI1 hk hpost
              obtain ⟨_, _, -⟩ := hk
              have hc := Mem.le.refl I1
              refine eq rfl rfl rfl ?_
              refine WL.nil ?_
              exact hpost _ _ hc rfl _ (fun _ hd => by obtain rfl := Option.some.inj hd; exact ⟨rfl, trivial⟩)
            · intro Q ρ I1 H hI1 hk hpost
              obtain ⟨_, -⟩ := hk
              have hc := Mem.le.refl I1
              refine mv rfl rfl ?_
              refine WL.nil ?_
              exact hpost _ _ hc (bT k77) _ (fun _ hd => by obtain rfl := Option.some.inj hd; exact ⟨rfl, trivial⟩)
            · intro Q ρ I1 H hI1 hk hpost
              obtain ⟨_, -⟩ := hk
              have hc := Mem.le.refl I1
              refine WL.on rfl rfl ?_
              refine mv rfl rfl ?_
              refine WL.nil ?_
              exact hpost _ _ hc rfl _ (fun _ hd => by obtain rfl := Option.some.inj hd; exact ⟨rfl, trivial⟩)
            · intro Q ρ I1 H hI1 hk hpost
              obtain ⟨_, -⟩ := hk
              have hc := Mem.le.refl I1
              refine WL.on rfl rfl ?_
              refine mv rfl rfl ?_
              refine WL.nil ?_
              exact hpost _ _ hc rfl _ (fun _ hd => by obtain rfl := Option.some.inj hd; exact ⟨rfl, trivial⟩)
            · intro Q ρ I1 H hI1 hk hpost
              obtain ⟨_, _, _, -⟩ := hk
              have hc := Mem.le.refl I1
              refine WL.on rfl rfl ?_
              refine eq rfl rfl rfl ?_
              refine WL.nil ?_
              exact hpost _ _ hc rfl _ (fun _ hd => by obtain rfl := Option.some.inj hd; exact ⟨rfl, trivial⟩)
            · intro Q ρ I1 H hI1 hk hpost
              obtain ⟨_, _, -⟩ := hk
              have hc := Mem.le.refl I1
              refine pkT rfl rfl rfl ?_
              refine WL.nil ?_
              exact hpost _ _ hc rfl _ (fun _ hd => by obtain rfl := Option.some.inj hd; exact ⟨rfl, trivial⟩)
            · intro Q ρ I1 H hI1 hk hpost
              obtain ⟨_, -⟩ := hk
              have hc := Mem.le.refl I1
              refine mv rfl rfl ?_
              refine WL.nil ?_
              exact hpost _ _ hc (bT k78) _ (fun _ hd => by obtain rfl := Option.some.inj hd; exact ⟨rfl, trivial⟩)
            · intro Q ρ I1 H hI1 hk hpost
              obtain ⟨_, -⟩ := hk
              have hc := Mem.le.refl I1
              refine WL.on rfl rfl ?_
              refine lda 0 ya41 rfl rfl rfl rfl rfl ?_
              refine WL.nil ?_
              exact hpost _ _ hc rfl _ (fun _ hd => by obtain rfl := Option.some.inj hd; exact ⟨rfl, trivial⟩)
            · intro Q ρ I1 H hI1 hk hpost
              obtain ⟨_, _, -⟩ := hk
              replace q31 := q31.up hI1
              have hc := Mem.le.refl I1
              refine WL.on rfl rfl ?_
              refine call cl32 rfl rfl (W32 e80 q31) (fun _ J81 _ hJ82 q83 => ?_)
              have hc := hc.trans hJ82
              replace q31 := q31.up hJ82
              obtain ⟨rfl, rfl⟩ := q83
              refine WL.nil ?_
              exact hpost _ _ hc rfl _ (fun _ hd => by obtain rfl := Option.some.inj hd; exact ⟨rfl, trivial⟩)
            · intro Q ρ I1 H hI1 hk hpost
              obtain ⟨_, -⟩ := hk
              have hc := Mem.le.refl I1
              refine WL.on rfl rfl ?_
              refine mv rfl rfl ?_
              refine WL.nil ?_
              exact hpost _ _ hc rfl _ (fun _ hd => by obtain rfl := Option.some.inj hd; exact ⟨rfl, trivial⟩)
            · intro Q ρ I1 H hI1 hk hpost
              obtain ⟨_, _, _, -⟩ := hk
              have hc := Mem.le.refl I1
              refine WL.on rfl rfl ?_
              refine eq rfl rfl rfl ?_
              refine WL.nil ?_
              exact hpost _ _ hc rfl _ (fun _ hd => by obtain rfl := Option.some.inj hd; exact ⟨rfl, trivial⟩)
            · intro Q ρ I1 H hI1 hk hpost
              obtain ⟨_, _, -⟩ := hk
              have hc := Mem.le.refl I1
              refine pkT rfl rfl rfl ?_
              refine WL.nil ?_
              exact hpost _ _ hc rfl _ (fun _ hd => by obtain rfl := Option.some.inj hd; exact ⟨rfl, trivial⟩)
            · intro Q ρ I1 H hI1 hk hpost
              obtain ⟨_, -⟩ := hk
              have hc := Mem.le.refl I1
              refine mv rfl rfl ?_
              refine WL.nil ?_
              exact hpost _ _ hc (bT k84) _ (fun _ hd => by obtain rfl := Option.some.inj hd; exact ⟨rfl, trivial⟩)
            · intro Q ρ I1 H hI1 hk hpost
              obtain ⟨_, -⟩ := hk
              have hc := Mem.le.refl I1
              refine WL.on rfl rfl ?_
              refine mv rfl rfl ?_
              refine WL.nil ?_
              exact hpost _ _ hc rfl _ (fun _ hd => by obtain rfl := Option.some.inj hd; exact ⟨rfl, trivial⟩)
            · intro Q ρ I1 H hI1 hk hpost
              obtain ⟨_, -⟩ := hk
              have hc := Mem.le.refl I1
              refine WL.on rfl rfl ?_
              refine mv rfl rfl ?_
              refine WL.nil ?_
              exact hpost _ _ hc rfl _ (fun _ hd => by obtain rfl := Option.some.inj hd; exact ⟨rfl, trivial⟩)
            · intro Q ρ I1 H hI1 hk hpost
              obtain ⟨_, _, _, -⟩ := hk
              have hc := Mem.le.refl I1
              refine WL.on rfl rfl ?_
              refine WL.freeze (fun J85 hJ86 h87 => ?_)
              have hc := hc.trans hJ86
              refine WL.freeze (fun J88 hJ89 h90 => ?_)
              have hc := hc.trans hJ89
              replace h87 := h87.up hJ89
              refine call cl17 rfl rfl (W17 e92 h87 h90) (fun _ J93 _ hJ94 q95 => ?_)
              have hc := hc.trans hJ94
              replace h87 := h87.up hJ94; replace h90 := h90.up hJ94
              obtain ⟨rfl, rfl⟩ := q95
              refine WL.nil ?_
              exact hpost _ _ hc rfl _ (fun _ hd => by obtain rfl := Option.some.inj hd; exact ⟨rfl, trivial⟩)
            · intro Q ρ I1 H hI1 hk hpost
              obtain ⟨_, _, -⟩ := hk
              have hc := Mem.le.refl I1
              refine pkT rfl rfl rfl ?_
              refine WL.nil ?_
              exact hpost _ _ hc rfl _ (fun _ hd => by obtain rfl := Option.some.inj hd; exact ⟨rfl, trivial⟩)
            · intro Q ρ I1 H hI1 hk hpost
              obtain ⟨_, -⟩ := hk
              have hc := Mem.le.refl I1
              refine mv rfl rfl ?_
              refine WL.nil ?_
              exact hpost _ _ hc (bt1 k96) _ (fun _ hd => by obtain rfl := Option.some.inj hd; exact ⟨rfl, trivial⟩)
            · intro Q ρ I1 H hI1 hk hpost
              obtain ⟨_, -⟩ := hk
              have hc := Mem.le.refl I1
              refine WL.on rfl rfl ?_
              refine mv rfl rfl ?_
              refine WL.nil ?_
              exact hpost _ _ hc rfl _ (fun _ hd => by obtain rfl := Option.some.inj hd; exact ⟨rfl, trivial⟩)
            · intro Q ρ I1 H hI1 hk hpost
              obtain ⟨_, -⟩ := hk
              have hc := Mem.le.refl I1
              refine WL.on rfl rfl ?_
              refine mv rfl rfl ?_
              refine WL.nil ?_
              exact hpost _ _ hc rfl _ (fun _ hd => by obtain rfl := Option.some.inj hd; exact ⟨rfl, trivial⟩)
            · intro Q ρ I1 H hI1 hk hpost
              obtain ⟨_, _, _, -⟩ := hk
              have hc := Mem.le.refl I1
              refine WL.on rfl rfl ?_
              refine WL.freeze (fun J97 hJ98 h99 => ?_)
              have hc := hc.trans hJ98
              refine WL.freeze (fun J100 hJ101 h102 => ?_)
              have hc := hc.trans hJ101
              replace h99 := h99.up hJ101
              refine call cl17 rfl rfl (W17 e104 h99 h102) (fun _ J105 _ hJ106 q107 => ?_)
              have hc := hc.trans hJ106
              replace h99 := h99.up hJ106; replace h102 := h102.up hJ106
              obtain ⟨rfl, rfl⟩ := q107
              refine WL.nil ?_
              exact hpost _ _ hc rfl _ (fun _ hd => by obtain rfl := Option.some.inj hd; exact ⟨rfl, trivial⟩)
            · intro Q ρ I1 H hI1 hk hpost
              obtain ⟨_, _, -⟩ := hk
              have hc := Mem.le.refl I1
              refine pkT rfl rfl rfl ?_
              refine WL.nil ?_
              exact hpost _ _ hc rfl _ (fun _ hd => by obtain rfl := Option.some.inj hd; exact ⟨rfl, trivial⟩)
            · intro Q ρ I1 H hI1 hk hpost
              obtain ⟨_, -⟩ := hk
              have hc := Mem.le.refl I1
              refine mv rfl rfl ?_
              refine WL.nil ?_
              exact hpost _ _ hc (bt1 k108) _ (fun _ hd => by obtain rfl := Option.some.inj hd; exact ⟨rfl, trivial⟩)
            · intro Q ρ I1 H hI1 hk hpost
              obtain ⟨_, -⟩ := hk
              have hc := Mem.le.refl I1
              refine WL.on rfl rfl ?_
              refine lda 0 ya41 rfl rfl rfl rfl rfl ?_
              refine WL.nil ?_
              exact hpost _ _ hc rfl _ (fun _ hd => by obtain rfl := Option.some.inj hd; exact ⟨rfl, trivial⟩)
            · intro Q ρ I1 H hI1 hk hpost
              obtain ⟨_, -⟩ := hk
              have hc := Mem.le.refl I1
              refine WL.on rfl rfl ?_
              refine lda 0 ya41 rfl rfl rfl rfl rfl ?_
              refine WL.nil ?_
              exact hpost _ _ hc rfl _ (fun _ hd => by obtain rfl := Option.some.inj hd; exact ⟨rfl, trivial⟩)
            · intro Q ρ I1 H hI1 hk hpost
              obtain ⟨_, _, _, -⟩ := hk
              replace q31 := q31.up hI1; replace q34 := q34.up hI1
              have hc := Mem.le.refl I1
              refine WL.on rfl rfl ?_
              refine call cl37 rfl rfl (W37 e110 q31 q34) (fun _ J111 _ hJ112 q113 => ?_)
              have hc := hc.trans hJ112
              replace q31 := q31.up hJ112; replace q34 := q34.up hJ112
              obtain ⟨rfl, rfl⟩ := q113
              refine WL.nil ?_
              exact hpost _ _ hc rfl _ (fun _ hd => by obtain rfl := Option.some.inj hd; exact ⟨rfl, trivial⟩)
            · intro Q ρ I1 H hI1 hk hpost
              obtain ⟨_, -⟩ := hk
              have hc := Mem.le.refl I1
              refine WL.on rfl rfl ?_
              refine lda 0 ya41 rfl rfl rfl rfl rfl ?_
              refine WL.nil ?_
              exact hpost _ _ hc rfl _ (fun _ hd => by obtain rfl := Option.some.inj hd; exact ⟨rfl, trivial⟩)
            · intro Q ρ I1 H hI1 hk hpost
              obtain ⟨_, -⟩ := hk
              have hc := Mem.le.refl I1
              refine WL.on rfl rfl ?_
              refine lda 0 ya41 rfl rfl rfl rfl rfl ?_
              refine WL.nil ?_
              exact hpost _ _ hc rfl _ (fun _ hd => by obtain rfl := Option.some.inj hd; exact ⟨rfl, trivial⟩)
            · intro Q ρ I1 H hI1 hk hpost
              obtain ⟨_, _, _, -⟩ := hk
              replace q31 := q31.up hI1; replace q34 := q34.up hI1
              have hc := Mem.le.refl I1
              refine WL.on rfl rfl ?_
              refine call cl38 rfl rfl (W38 e115 q31 q34) (fun _ J116 _ hJ117 q118 => ?_)
              have hc := hc.trans hJ117
              replace q31 := q31.up hJ117; replace q34 := q34.up hJ117
              obtain ⟨rfl, rfl⟩ := q118
              refine WL.nil ?_
              exact hpost _ _ hc rfl _ (fun _ hd => by obtain rfl := Option.some.inj hd; exact ⟨rfl, trivial⟩)
            · intro Q ρ I1 H hI1 hk hpost
              obtain ⟨_, _, _, -⟩ := hk
              have hc := Mem.le.refl I1
              refine WL.on rfl rfl ?_
              refine be Try.underlying4 rfl rfl rfl ?_
              refine WL.nil ?_
              exact hpost _ _ hc rfl _ (fun _ hd => by obtain rfl := Option.some.inj hd; exact ⟨rfl, trivial⟩)
            · intro Q ρ I1 H hI1 hk hpost
              obtain ⟨_, _, -⟩ := hk
              have hc := Mem.le.refl I1
              refine pkT rfl rfl rfl ?_
              refine WL.nil ?_
              exact hpost _ _ hc rfl _ (fun _ hd => by obtain rfl := Option.some.inj hd; exact ⟨rfl, trivial⟩)
            · intro Q ρ I1 H hI1 hk hpost
              obtain ⟨_, -⟩ := hk
              have hc := Mem.le.refl I1
              refine mv rfl rfl ?_
              refine WL.nil ?_
              exact hpost _ _ hc (bf1 k119) _ (fun _ hd => by obtain rfl := Option.some.inj hd; exact ⟨rfl, trivial⟩)
            · intro Q ρ I1 H hI1 hk hpost
              obtain ⟨_, -⟩ := hk
              have hc := Mem.le.refl I1
              refine WL.no rfl rfl rfl rfl ?_
              refine WL.nil ?_
              exact hpost _ _ hc rfl _ (fun _ hd => by obtain rfl := Option.some.inj hd; exact ⟨rfl, trivial⟩)
            · intro Q ρ I1 H hI1 hk hpost
              obtain ⟨_, -⟩ := hk
              have hc := Mem.le.refl I1
              refine WL.no rfl rfl rfl rfl ?_
              refine WL.nil ?_
              exact hpost _ _ hc rfl _ (fun _ hd => by obtain rfl := Option.some.inj hd; exact ⟨rfl, trivial⟩)
            · intro Q ρ I1 H hI1 hk hpost
              obtain ⟨_, -⟩ := hk
              have hc := Mem.le.refl I1
              refine WL.no rfl rfl rfl rfl ?_
              refine WL.nil ?_
              exact hpost _ _ hc rfl _ (fun _ hd => by obtain rfl := Option.some.inj hd; exact ⟨rfl, trivial⟩)
            · intro Q ρ I1 H hI1 hk hpost
              obtain ⟨_, _, -⟩ := hk
              have hc := Mem.le.refl I1
              refine pkF rfl rfl rfl ?_
              refine WL.nil ?_
              exact hpost _ _ hc rfl _ (fun _ hd => by obtain rfl := Option.some.inj hd; exact ⟨rfl, trivial⟩)
            · intro Q ρ I1 H hI1 hk hpost
              obtain ⟨_, -⟩ := hk
              have hc := Mem.le.refl I1
              refine mv rfl rfl ?_
              refine WL.nil ?_
              exact hpost _ _ hc rfl _ (fun _ hd => by obtain rfl := Option.some.inj hd; exact ⟨rfl, trivial⟩)
            · intro Q ρ I1 H hI1 hk hpost
              obtain ⟨_, -⟩ := hk
              have hc := Mem.le.refl I1
              refine WL.no rfl rfl rfl rfl ?_
              refine WL.nil ?_
              exact hpost _ _ hc rfl _ (fun _ hd => by obtain rfl := Option.some.inj hd; exact ⟨rfl, trivial⟩)
            · intro Q ρ I1 H hI1 hk hpost
              obtain ⟨_, _, -⟩ := hk
              have hc := Mem.le.refl I1
              refine pkF rfl rfl rfl ?_
              refine WL.nil ?_
              exact hpost _ _ hc rfl _ (fun _ hd => by obtain rfl := Option.some.inj hd; exact ⟨rfl, trivial⟩)
            · intro Q ρ I1 H hI1 hk hpost
              obtain ⟨_, -⟩ := hk
              have hc := Mem.le.refl I1
              refine asg rfl rfl ?_
              refine WL.nil ?_
              exact hpost _ _ hc rfl _ (fun _ hd => by obtain rfl := Option.some.inj hd; exact ⟨rfl, trivial⟩)
            rintro ρ J135 hJ136 -
            refine WX.sub (r := [(8, (.bool false))]) ?_ ⟨rfl, trivial⟩
            refine WX.is (H := bl q27 #[(.int .i64 x5.Kind), (.int .i64 x5.Path), (.int .i64 x5.Number), (.int .i64 x5.Of), (.int .i64 x5.From), (.slice q29 x5.Data.length q30), (.bool x5.Fin), (.int .i64 x5.Seen), (.int .i64 x5.Limit)] 41 :: bl q28 #[(.int .i64 x13.Kind), (.int .i64 x13.Path), (.int .i64 x13.Number), (.int .i64 x13.Of), (.int .i64 x13.From), (.slice q32 x13.Data.length q33), (.bool x13.Fin), (.int .i64 x13.Seen), (.int .i64 x13.Limit)] 41 :: G) rfl ?_
            have hI := hI.trans hJ136
            replace q31 := q31.up hJ136; replace q34 := q34.up hJ136
            refine WX.then_ ?_
            refine WC.ret ?_
            cases h
            refine WX.del 0 ?_
            refine WX.del 0 ?_
            exact ret1 Try.results7 rfl hI ⟨rfl, rfl⟩
          refine WC.front 1 ?_
          refine WC.front 2 ?_
          refine WC.front 3 ?_
          refine WC.front 4 ?_
          refine WC.drawn mo (nthL [[], [], [0, 1], [0, 1, 2], [0, 1, 2, 3], [0, 1, 2, 3], [0, 1, 2, 3, 4, 5], [0, 1, 2, 3, 4, 5, 6], [0, 1, 2, 3, 4, 5, 6, 7], [0, 1, 2, 3, 4, 5, 6, 7, 8], [0, 1, 2, 3, 4, 5, 6, 7, 8, 9], [0, 1, 2, 3, 4, 5, 6, 7, 8], [0, 1, 2, 3, 4, 5, 6, 7, 8, 9, 10, 11], [0, 1, 2, 3, 4, 5, 6, 7, 8, 9, 10, 11, 12], [0, 1, 2, 3, 4, 5, 6, 7, 8, 9, 10, 11, 12, 13], [0, 1, 2, 3, 4, 5, 6, 7, 8, 9, 10, 11, 12, 13, 14], [0, 1, 2, 3, 4, 5, 6, 7, 8, 9, 10, 11, 12, 13, 14], [0, 1, 2, 3, 4, 5, 6, 7, 8, 9, 10, 11, 12, 13, 14, 15, 16], [0, 1, 2, 3, 4, 5, 6, 7, 8, 9, 10, 11, 12, 13, 14, 15, 16, 17], [0, 1, 2, 3, 4, 5, 6, 7, 8, 9, 10, 11, 12, 13, 14, 15, 16, 17, 18], [0, 1, 2, 3, 4, 5, 6, 7, 8, 9, 10, 11, 12, 13, 14, 15, 16, 17, 18, 19], [0, 1, 2, 3, 4, 5, 6, 7, 8, 9, 10, 11, 12, 13, 14, 15, 16, 17, 18, 19], [0, 1, 2, 3, 4, 5, 6, 7, 8, 9, 10, 11, 12, 13, 14, 15, 16, 17, 18, 19, 20, 21], [0, 1, 2, 3, 4, 5, 6, 7, 8, 9, 10, 11, 12, 13, 14, 15, 16, 17, 18, 19, 20, 21, 22], [0, 1, 2, 3, 4, 5, 6, 7, 8, 9, 10, 11, 12, 13, 14, 15, 16, 17, 18, 19, 20, 21, 22, 23], [0, 1, 2, 3, 4, 5, 6, 7, 8, 9, 10, 11, 12, 13, 14, 15, 16, 17, 18, 19, 20, 21, 22, 23, 24], [0, 1, 2, 3, 4, 5, 6, 7, 8, 9, 10, 11, 12, 13, 14, 15, 16, 17, 18, 19, 20, 21, 22, 23, 24], [0, 1, 2, 3, 4, 5, 6, 7, 8, 9, 10, 11, 12, 13, 14, 15, 16, 17, 18, 19, 20, 21, 22, 23, 24, 25, 26], [0, 1, 2, 3, 4, 5, 6, 7, 8, 9, 10, 11, 12, 13, 14, 15, 16, 17, 18, 19, 20, 21, 22, 23, 24], [0, 1, 2, 3, 4, 5, 6, 7, 8, 9, 10, 11, 12, 13, 14, 15, 16, 17, 18, 19, 20, 21, 22, 23, 24], [0, 1, 2, 3, 4, 5, 6, 7, 8, 9, 10, 11, 12, 13, 14, 15, 16, 17, 18, 19, 20, 21, 22, 23, 24, 25, 26, 27, 28, 29], [0, 1, 2, 3, 4, 5, 6, 7, 8, 9, 10, 11, 12, 13, 14, 15, 16, 17, 18, 19, 20, 21, 22, 23, 24, 25, 26, 27, 28, 29, 30], [0, 1, 2, 3, 4, 5, 6, 7, 8, 9, 10, 11, 12, 13, 14, 15, 16, 17, 18, 19, 20, 21, 22, 23, 24, 25, 26, 27, 28, 29, 30, 31], [0, 1, 2, 3, 4, 5, 6, 7, 8, 9, 10, 11, 12, 13, 14, 15, 16, 17, 18, 19, 20, 21, 22, 23, 24, 25, 26, 27, 28, 29, 30, 31, 32], [0, 1, 2, 3, 4, 5, 6, 7, 8, 9, 10, 11, 12, 13, 14, 15, 16, 17, 18, 19, 20, 21, 22, 23, 24, 25, 26, 27, 28, 29, 30, 31, 32, 33], [0, 1, 2, 3, 4, 5, 6, 7, 8, 9, 10, 11, 12, 13, 14, 15, 16, 17, 18, 19, 20, 21, 22, 23, 24, 25, 26, 27, 28, 29, 30, 31, 32, 33], [0, 1, 2, 3, 4, 5, 6, 7, 8, 9, 10, 11, 12, 13, 14, 15, 16, 17, 18, 19, 20, 21, 22, 23, 24, 25, 26, 27, 28, 29, 30, 31, 32, 33, 34, 35], [0, 1, 2, 3, 4, 5, 6, 7, 8, 9, 10, 11, 12, 13, 14, 15, 16, 17, 18, 19, 20, 21, 22, 23, 24, 25, 26, 27, 28, 29, 30, 31, 32, 33, 34, 35, 36], [0, 1, 2, 3, 4, 5, 6, 7, 8, 9, 10, 11, 12, 13, 14, 15, 16, 17, 18, 19, 20, 21, 22, 23, 24, 25, 26, 27, 28, 29, 30, 31, 32, 33, 34, 35, 36, 37], [0, 1, 2, 3, 4, 5, 6, 7, 8, 9, 10, 11, 12, 13, 14, 15, 16, 17, 18, 19, 20, 21, 22, 23, 24, 25, 26, 27, 28, 29, 30, 31, 32, 33, 34, 35, 36, 37, 38], [0, 1, 2, 3, 4, 5, 6, 7, 8, 9, 10, 11, 12, 13, 14, 15, 16, 17, 18, 19, 20, 21, 22, 23, 24, 25, 26, 27, 28, 29, 30, 31, 32, 33, 34, 35, 36, 37, 38, 39], [0, 1, 2, 3, 4, 5, 6, 7, 8, 9, 10, 11, 12, 13, 14, 15, 16, 17, 18, 19, 20, 21, 22, 23, 24, 25, 26, 27, 28, 29, 30, 31, 32, 33, 34, 35, 36, 37, 38, 39, 40]]) (nthL [[], [], [0, 1], [2], [3], [3], [3, 4, 5], [3, 6], [7], [8], [8, 9], [8], [8, 10, 11], [8, 12], [13], [14], [14], [14, 15, 16], [14, 17], [18], [19], [19], [19, 20, 21], [19, 22], [23], [24], [24], [24], [24], [24], [24], [24], [24, 31], [32], [33], [33], [33], [33, 36], [37], [38], [38, 39], [40]]) (nthK [.val (.int .i64 x36), .val (.int .i64 x72), .val (.bool (decide (x36 = x72))), .val (.bool true), .val (.int .i64 x54), .val (.int .i64 x72), .val (.bool (decide (x54 = x72))), .val (.bool (decide (x54 = x72))), .val (.bool true), .val (.agg #[(.int .i64 x5.Kind), (.int .i64 x5.Path), (.int .i64 x5.Number), (.int .i64 x5.Of), (.int .i64 x5.From), (.slice q29 x5.Data.length q30), (.bool x5.Fin), (.int .i64 x5.Seen), (.int .i64 x5.Limit)]), .val (.int .i64 x79), .val (.int .i64 x72), .val (.bool (decide (x79 = x72))), .val (.bool (decide (x79 = x72))), .val (.bool true), .val (.slice a41 x35.length c42), .val (.slice a50 x44.length c51), .val (.bool x91), .val (.bool x91), .val (.bool true), .val (.slice a59 x53.length c60), .val (.slice a68 x62.length c69), .val (.bool x103), .val (.bool x103), .val (.bool false), .val undef, .val undef, .val undef, .val undef, .val undef, .val undef, .val undef, .val (.bool false), .val (.bool false), .val undef, .val undef, .val undef, .val (.bool false), .val (.bool false), .val undef, .val (.bool false), .val (.bool false)]) [⟨none, none, [9], [], fun _ => bl q27 #[(.int .i64 x5.Kind), (.int .i64 x5.Path), (.int .i64 x5.Number), (.int .i64 x5.Of), (.int .i64 x5.From), (.slice q29 x5.Data.length q30), (.bool x5.Fin), (.int .i64 x5.Seen), (.int .i64 x5.Limit)] 41⟩, ⟨none, (some 17), [], [], fun _ => OV 5 (.slice a41 x35.length c42) x35⟩, ⟨none, (some 17), [], [], fun _ => OV 5 (.slice a50 x44.length c51) x44⟩, ⟨none, (some 22), [], [], fun _ => OV 5 (.slice a59 x53.length c60) x53⟩, ⟨none, (some 22), [], [], fun _ => OV 5 (.slice a68 x62.length c69) x62⟩] (by kernel_rfl) (by kernel_rfl) (by kernel_rfl) (H := bl q28 #[(.int .i64 x13.Kind), (.int .i64 x13.Path), (.int .i64 x13.Number), (.int .i64 x13.Of), (.int .i64 x13.From), (.slice q32 x13.Data.length q33), (.bool x13.Fin), (.int .i64 x13.Seen), (.int .i64 x13.Limit)] 41 :: G) rfl ⟨?_, ?_, ?_, ?_, ?_, ?_, ?_, ?_, ?_, ?_, ?_, ?_, ?_, ?_, ?_, ?_, ?_, ?_, ?_, ?_, ?_, ?_, ?_, ?_, ?_, ?_, ?_, ?_, ?_, ?_, ?_, ?_, ?_, ?_, ?_, ?_, ?_, ?_, ?_, ?_, ?_, ?_, trivial⟩ ?_
          · intro Q ρ I1 H hI1 hk hpost
            have hc := Mem.le.refl I1
            refine mv rfl rfl ?_
            refine WL.nil ?_
            exact hpost _ _ hc rfl _ (fun _ hd => by obtain rfl := Option.some.inj hd; exact ⟨rfl, trivial⟩)
          · intro Q ρ I1 H hI1 hk hpost
            have hc := Mem.le.refl I1
            refine mv rfl rfl ?_
            refine WL.nil ?_
            exact hpost _ _ hc rfl _ (fun _ hd => by obtain rfl := Option.some.inj hd; exact ⟨rfl, trivial⟩)
          · intro Q ρ I1 H hI1 hk hpost
            obtain ⟨_, _, -⟩ := hk
            have hc := Mem.le.refl I1
            refine eq rfl rfl rfl ?_
            refine WL.nil ?_
            exact hpost _ _ hc rfl _ (fun _ hd => by obtain rfl := Option.some.inj hd; exact ⟨rfl, trivial⟩)
          · intro Q ρ I1 H hI1 hk hpost
            obtain ⟨_, -⟩ := hk
            have hc := Mem.le.refl I1
            refine mv rfl rfl ?_
            refine WL.nil ?_
            exact hpost _ _ hc (bT k77) _ (fun _ hd => by obtain rfl := Option.some.inj hd; exact ⟨rfl, trivial⟩)
          · intro Q ρ I1 H hI1 hk hpost
            obtain ⟨_, -⟩ := hk
            have hc := Mem.le.refl I1
            refine WL.on rfl rfl ?_
            refine mv rfl rfl ?_
            refine WL.nil ?_
            exact hpost _ _ hc rfl _ (fun _ hd => by obtain rfl := Option.some.inj hd; exact ⟨rfl, trivial⟩)
          · intro Q ρ I1 H hI1 hk hpost
            obtain ⟨_, -⟩ := hk
            have hc := Mem.le.refl I1
            refine WL.on rfl rfl ?_
            refine mv rfl rfl ?_
            refine WL.nil ?_
            exact hpost _ _ hc rfl _ (fun _ hd => by obtain rfl := Option.some.inj hd; exact ⟨rfl, trivial⟩)
          · intro Q ρ I1 H hI1 hk hpost
            obtain ⟨_, _, _, -⟩ := hk
            have hc := Mem.le.refl I1
            refine WL.on rfl rfl ?_
            refine eq rfl rfl rfl ?_
            refine WL.nil ?_
            exact hpost _ _ hc rfl _ (fun _ hd => by obtain rfl := Option.some.inj hd; exact ⟨rfl, trivial⟩)
          · intro Q ρ I1 H hI1 hk hpost
            obtain ⟨_, _, -⟩ := hk
            have hc := Mem.le.refl I1
            refine pkT rfl rfl rfl ?_
            refine WL.nil ?_
            exact hpost _ _ hc rfl _ (fun _ hd => by obtain rfl := Option.some.inj hd; exact ⟨rfl, trivial⟩)
          · intro Q ρ I1 H hI1 hk hpost
            obtain ⟨_, -⟩ := hk
            have hc := Mem.le.refl I1
            refine mv rfl rfl ?_
            refine WL.nil ?_
            exact hpost _ _ hc (bT k78) _ (fun _ hd => by obtain rfl := Option.some.inj hd; exact ⟨rfl, trivial⟩)
          · intro Q ρ I1 H hI1 hk hpost
            obtain ⟨_, -⟩ := hk
            have hc := Mem.le.refl I1
            refine WL.on rfl rfl ?_
            refine lda 0 ya41 rfl rfl rfl rfl rfl ?_
            refine WL.nil ?_
            exact hpost _ _ hc rfl _ (fun _ hd => by obtain rfl := Option.some.inj hd; exact ⟨rfl, trivial⟩)
          · intro Q ρ I1 H hI1 hk hpost
            obtain ⟨_, _, -⟩ := hk
            replace q31 := q31.up hI1
            have hc := Mem.le.refl I1
            refine WL.on rfl rfl ?_
            refine call cl32 rfl rfl (W32 e80 q31) (fun _ J81 _ hJ82 q83 => ?_)
            have hc := hc.trans hJ82
            replace q31 := q31.up hJ82
            obtain ⟨rfl, rfl⟩ := q83
            refine WL.nil ?_
            exact hpost _ _ hc rfl _ (fun _ hd => by obtain rfl := Option.some.inj hd; exact ⟨rfl, trivial⟩)
          · intro Q ρ I1 H hI1 hk hpost
            obtain ⟨_, -⟩ := hk
            have hc := Mem.le.refl I1
            refine WL.on rfl rfl ?_
            refine mv rfl rfl ?_
            refine WL.nil ?_
            exact hpost _ _ hc rfl _ (fun _ hd => by obtain rfl := Option.some.inj hd; exact ⟨rfl, trivial⟩)
          · intro Q ρ I1 H hI1 hk hpost
            obtain ⟨_, _, _, -⟩ := hk
            have hc := Mem.le.refl I1
            refine WL.on rfl rfl ?_
            refine eq rfl rfl rfl ?_
            refine WL.nil ?_
            exact hpost _ _ hc rfl _ (fun _ hd => by obtain rfl := Option.some.inj hd; exact ⟨rfl, trivial⟩)
          · intro Q ρ I1 H hI1 hk hpost
            obtain ⟨_, _, -⟩ := hk
            have hc := Mem.le.refl I1
            refine pkT rfl rfl rfl ?_
            refine WL.nil ?_
            exact hpost _ _ hc rfl _ (fun _ hd => by obtain rfl := Option.some.inj hd; exact ⟨rfl, trivial⟩)
          · intro Q ρ I1 H hI1 hk hpost
            obtain ⟨_, -⟩ := hk
            have hc := Mem.le.refl I1
            refine mv rfl rfl ?_
            refine WL.nil ?_
            exact hpost _ _ hc (bT k84) _ (fun _ hd => by obtain rfl := Option.some.inj hd; exact ⟨rfl, trivial⟩)
          · intro Q ρ I1 H hI1 hk hpost
            obtain ⟨_, -⟩ := hk
            have hc := Mem.le.refl I1
            refine WL.on rfl rfl ?_
            refine mv rfl rfl ?_
            refine WL.nil ?_
            exact hpost _ _ hc rfl _ (fun _ hd => by obtain rfl := Option.some.inj hd; exact ⟨rfl, trivial⟩)
          · intro Q ρ I1 H hI1 hk hpost
            obtain ⟨_, -⟩ := hk
            have hc := Mem.le.refl I1
            refine WL.on rfl rfl ?_
            refine mv rfl rfl ?_
            refine WL.nil ?_
            exact hpost _ _ hc rfl _ (fun _ hd => by obtain rfl := Option.some.inj hd; exact ⟨rfl, trivial⟩)
          · intro Q ρ I1 H hI1 hk hpost
            obtain ⟨_, _, _, -⟩ := hk
            have hc := Mem.le.refl I1
            refine WL.on rfl rfl ?_
            refine WL.freeze (fun J85 hJ86 h87 => ?_)
            have hc := hc.trans hJ86
            refine WL.freeze (fun J88 hJ89 h90 => ?_)
            have hc := hc.trans hJ89
            replace h87 := h87.up hJ89
            refine call cl17 rfl rfl (W17 e92 h87 h90) (fun _ J93 _ hJ94 q95 => ?_)
            have hc := hc.trans hJ94
            replace h87 := h87.up hJ94; replace h90 := h90.up hJ94
            obtain ⟨rfl, rfl⟩ := q95
            refine WL.nil ?_
            exact hpost _ _ hc rfl _ (fun _ hd => by obtain rfl := Option.some.inj hd; exact ⟨rfl, trivial⟩)
          · intro Q ρ I1 H hI1 hk hpost
            obtain ⟨_, _, -⟩ := hk
            have hc := Mem.le.refl I1
            refine pkT rfl rfl rfl ?_
            refine WL.nil ?_
            exact hpost _ _ hc rfl _ (fun _ hd => by obtain rfl := Option.some.inj hd; exact ⟨rfl, trivial⟩)
          · intro Q ρ I1 H hI1 hk hpost
            obtain ⟨_, -⟩ := hk
            have hc := Mem.le.refl I1
            refine mv rfl rfl ?_
            refine WL.nil ?_
            exact hpost _ _ hc (bt1 k96) _ (fun _ hd => by obtain rfl := Option.some.inj hd; exact ⟨rfl, trivial⟩)
          · intro Q ρ I1 H hI1 hk hpost
            obtain ⟨_, -⟩ := hk
            have hc := Mem.le.refl I1
            refine WL.on rfl rfl ?_
            refine mv rfl rfl ?_
            refine WL.nil ?_
            exact hpost _ _ hc rfl _ (fun _ hd => by obtain rfl := Option.some.inj hd; exact ⟨rfl, trivial⟩)
          · intro Q ρ I1 H hI1 hk hpost
            obtain ⟨_, -⟩ := hk
            have hc := Mem.le.refl I1
            refine WL.on rfl rfl ?_
            refine mv rfl rfl ?_
            refine WL.nil ?_
            exact hpost _ _ hc rfl _ (fun _ hd => by obtain rfl := Option.some.inj hd; exact ⟨rfl, trivial⟩)
          · intro Q ρ I1 H hI1 hk hpost
            obtain ⟨_, _, _, -⟩ := hk
            have hc := Mem.le.refl I1
            refine WL.on rfl rfl ?_
            refine WL.freeze (fun J97 hJ98 h99 => ?_)
            have hc := hc.trans hJ98
            refine WL.freeze (fun J100 hJ101 h102 => ?_)
            have hc := hc.trans hJ101
            replace h99 := h99.up hJ101
            refine call cl17 rfl rfl (W17 e104 h99 h102) (fun _ J105 _ hJ106 q107 => ?_)
            have hc := hc.trans hJ106
            replace h99 := h99.up hJ106; replace h102 := h102.up hJ106
            obtain ⟨rfl, rfl⟩ := q107
            refine WL.nil ?_
            exact hpost _ _ hc rfl _ (fun _ hd => by obtain rfl := Option.some.inj hd; exact ⟨rfl, trivial⟩)
          · intro Q ρ I1 H hI1 hk hpost
            obtain ⟨_, _, -⟩ := hk
            have hc := Mem.le.refl I1
            refine pkT rfl rfl rfl ?_
            refine WL.nil ?_
            exact hpost _ _ hc rfl _ (fun _ hd => by obtain rfl := Option.some.inj hd; exact ⟨rfl, trivial⟩)
          · intro Q ρ I1 H hI1 hk hpost
            obtain ⟨_, -⟩ := hk
            have hc := Mem.le.refl I1
            refine mv rfl rfl ?_
            refine WL.nil ?_
            exact hpost _ _ hc (bf1 k108) _ (fun _ hd => by obtain rfl := Option.some.inj hd; exact ⟨rfl, trivial⟩)
          · intro Q ρ I1 H hI1 hk hpost
            obtain ⟨_, -⟩ := hk
            have hc := Mem.le.refl I1
            refine WL.no rfl rfl rfl rfl ?_
            refine WL.nil ?_
            exact hpost _ _ hc rfl _ (fun _ hd => by obtain rfl := Option.some.inj hd; exact ⟨rfl, trivial⟩)
          · intro Q ρ I1 H hI1 hk hpost
            obtain ⟨_, -⟩ := hk
            have hc := Mem.le.refl I1
            refine WL.no rfl rfl rfl rfl ?_
            refine WL.nil ?_
            exact hpost _ _ hc rfl _ (fun _ hd => by obtain rfl := Option.some.inj hd; exact ⟨rfl, trivial⟩)
          · intro Q ρ I1 H hI1 hk hpost
            obtain ⟨_, -⟩ := hk
            have hc := Mem.le.refl I1
            refine WL.no rfl rfl rfl rfl ?_
            refine WL.nil ?_
            exact hpost _ _ hc rfl _ (fun _ hd => by obtain rfl := Option.some.inj hd; exact ⟨rfl, trivial⟩)
          · intro Q ρ I1 H hI1 hk hpost
            obtain ⟨_, -⟩ := hk
            have hc := Mem.le.refl I1
            refine WL.no rfl rfl rfl rfl ?_
            refine WL.nil ?_
            exact hpost _ _ hc rfl _ (fun _ hd => by obtain rfl := Option.some.inj hd; exact ⟨rfl, trivial⟩)
          · intro Q ρ I1 H hI1 hk hpost
            obtain ⟨_, -⟩ := hk
            have hc := Mem.le.refl I1
            refine WL.no rfl rfl rfl rfl ?_
            refine WL.nil ?_
            exact hpost _ _ hc rfl _ (fun _ hd => by obtain rfl := Option.some.inj hd; exact ⟨rfl, trivial⟩)
          · intro Q ρ I1 H hI1 hk hpost
            obtain ⟨_, -⟩ := hk
            have hc := Mem.le.refl I1
            refine WL.no rfl rfl rfl rfl ?_
            refine WL.nil ?_
            exact hpost _ _ hc rfl _ (fun _ hd => by obtain rfl := Option.some.inj hd; exact ⟨rfl, trivial⟩)
          · intro Q ρ I1 H hI1 hk hpost
            obtain ⟨_, -⟩ := hk
            have hc := Mem.le.refl I1
            refine WL.no rfl rfl rfl rfl ?_
            refine WL.nil ?_
            exact hpost _ _ hc rfl _ (fun _ hd => by obtain rfl := Option.some.inj hd; exact ⟨rfl, trivial⟩)
          · intro Q ρ I1 H hI1 hk hpost
            obtain ⟨_, _, -⟩ := hk
            have hc := Mem.le.refl I1
            refine pkF rfl rfl rfl ?_
            refine WL.nil ?_
            exact hpost _ _ hc rfl _ (fun _ hd => by obtain rfl := Option.some.inj hd; exact ⟨rfl, trivial⟩)
          · intro Q ρ I1 H hI1 hk hpost
            obtain ⟨_, -⟩ := hk
            have hc := Mem.le.refl I1
            refine mv rfl rfl ?_
            refine WL.nil ?_
            exact hpost _ _ hc rfl _ (fun _ hd => by obtain rfl := Option.some.inj hd; exact ⟨rfl, trivial⟩)
          · intro Q ρ I1 H hI1 hk hpost
            obtain ⟨_, -⟩ := hk
            have hc := Mem.le.refl I1
            refine WL.no rfl rfl rfl rfl ?_
            refine WL.nil ?_
            exact hpost _ _ hc rfl _ (fun _ hd => by obtain rfl := Option.some.inj hd; exact ⟨rfl, trivial⟩)
          · intro Q ρ I1 H hI1 hk hpost
            obtain ⟨_, -⟩ := hk
            have hc := Mem.le.refl I1
            refine WL.no rfl rfl rfl rfl ?_
            refine WL.nil ?_
            exact hpost _ _ hc rfl _ (fun _ hd => by obtain rfl := Option.some.inj hd; exact ⟨rfl, trivial⟩)
          · intro Q ρ I1 H hI1 hk hpost
            obtain ⟨_, -⟩ := hk
            have hc := Mem.le.refl I1
            refine WL.no rfl rfl rfl rfl ?_
            refine WL.nil ?_
            exact hpost _ _ hc rfl _ (fun _ hd => by obtain rfl := Option.some.inj hd; exact ⟨rfl, trivial⟩)
          · intro Q ρ I1 H hI1 hk hpost
            obtain ⟨_, _, -⟩ := hk
            have hc := Mem.le.refl I1
            refine pkF rfl rfl rfl ?_
            refine WL.nil ?_
            exact hpost _ _ hc rfl _ (fun _ hd => by obtain rfl := Option.some.inj hd; exact ⟨rfl, trivial⟩)
          · intro Q ρ I1 H hI1 hk hpost
            obtain ⟨_, -⟩ := hk
            have hc := Mem.le.refl I1
            refine mv rfl rfl ?_
            refine WL.nil ?_
            exact hpost _ _ hc rfl _ (fun _ hd => by obtain rfl := Option.some.inj hd; exact ⟨rfl, trivial⟩)
          · intro Q ρ I1 H hI1 hk hpost
            obtain ⟨_, -⟩ := hk
            have hc := Mem.le.refl I1
            refine WL.no rfl rfl rfl rfl ?_
            refine WL.nil ?_
            exact hpost _ _ hc rfl _ (fun _ hd => by obtain rfl := Option.some.inj hd; exact ⟨rfl, trivial⟩)
          · intro Q ρ I1 H hI1 hk hpost
            obtain ⟨_, _, -⟩ := hk
            have hc := Mem.le.refl I1
            refine pkF rfl rfl rfl ?_
            refine WL.nil ?_
            exact hpost _ _ hc rfl _ (fun _ hd => by obtain rfl := Option.some.inj hd; exact ⟨rfl, trivial⟩)
          · intro Q ρ I1 H hI1 hk hpost
            obtain ⟨_, -⟩ := hk
            have hc := Mem.le.refl I1
            refine asg rfl rfl ?_
            refine WL.nil ?_
            exact hpost _ _ hc rfl _ (fun _ hd => by obtain rfl := Option.some.inj hd; exact ⟨rfl, trivial⟩)
          rintro ρ J137 hJ138 -
          refine WX.sub (r := [(8, (.bool false))]) ?_ ⟨rfl, trivial⟩
          refine WX.is (H := bl q27 #[(.int .i64 x5.Kind), (.int .i64 x5.Path), (.int .i64 x5.Number), (.int .i64 x5.Of), (.int .i64 x5.From), (.slice q29 x5.Data.length q30), (.bool x5.Fin), (.int .i64 x5.Seen), (.int .i64 x5.Limit)] 41 :: bl q28 #[(.int .i64 x13.Kind), (.int .i64 x13.Path), (.int .i64 x13.Number), (.int .i64 x13.Of), (.int .i64 x13.From), (.slice q32 x13.Data.length q33), (.bool x13.Fin), (.int .i64 x13.Seen), (.int .i64 x13.Limit)] 41 :: G) rfl ?_
          have hI := hI.trans hJ138
          replace q31 := q31.up hJ138; replace q34 := q34.up hJ138
          refine WX.then_ ?_
          refine WC.ret ?_
          cases h
          refine WX.del 0 ?_
          refine WX.del 0 ?_
          exact ret1 Try.results7 rfl hI ⟨rfl, rfl⟩
        refine WC.front 2 ?_
        refine WC.front 3 ?_
        refine WC.front 4 ?_
        refine WC.drawn mo (nthL [[], [], [0, 1], [0, 1, 2], [0, 1, 2, 3], [0, 1, 2, 3], [0, 1, 2, 3, 4, 5], [0, 1, 2, 3, 4, 5, 6], [0, 1, 2, 3, 4, 5, 6, 7], [0, 1, 2, 3, 4, 5, 6, 7, 8], [0, 1, 2, 3, 4, 5, 6, 7, 8, 9], [0, 1, 2, 3, 4, 5, 6, 7, 8], [0, 1, 2, 3, 4, 5, 6, 7, 8, 9, 10, 11], [0, 1, 2, 3, 4, 5, 6, 7, 8, 9, 10, 11, 12], [0, 1, 2, 3, 4, 5, 6, 7, 8, 9, 10, 11, 12, 13], [0, 1, 2, 3, 4, 5, 6, 7, 8, 9, 10, 11, 12, 13, 14], [0, 1, 2, 3, 4, 5, 6, 7, 8, 9, 10, 11, 12, 13, 14], [0, 1, 2, 3, 4, 5, 6, 7, 8, 9, 10, 11, 12, 13, 14, 15, 16], [0, 1, 2, 3, 4, 5, 6, 7, 8, 9, 10, 11, 12, 13, 14, 15, 16, 17], [0, 1, 2, 3, 4, 5, 6, 7, 8, 9, 10, 11, 12, 13, 14, 15, 16, 17, 18], [0, 1, 2, 3, 4, 5, 6, 7, 8, 9, 10, 11, 12, 13, 14, 15, 16, 17, 18, 19], [0, 1, 2, 3, 4, 5, 6, 7, 8, 9, 10, 11, 12, 13, 14, 15, 16, 17, 18, 19], [0, 1, 2, 3, 4, 5, 6, 7, 8, 9, 10, 11, 12, 13, 14, 15, 16, 17, 18, 19, 20, 21], [0, 1, 2, 3, 4, 5, 6, 7, 8, 9, 10, 11, 12, 13, 14, 15, 16, 17, 18, 19, 20, 21, 22], [0, 1, 2, 3, 4, 5, 6, 7, 8, 9, 10, 11, 12, 13, 14, 15, 16, 17, 18, 19, 20, 21, 22, 23], [0, 1, 2, 3, 4, 5, 6, 7, 8, 9, 10, 11, 12, 13, 14, 15, 16, 17, 18, 19, 20, 21, 22, 23, 24], [0, 1, 2, 3, 4, 5, 6, 7, 8, 9, 10, 11, 12, 13, 14, 15, 16, 17, 18, 19, 20, 21, 22, 23, 24], [0, 1, 2, 3, 4, 5, 6, 7, 8, 9, 10, 11, 12, 13, 14, 15, 16, 17, 18, 19, 20, 21, 22, 23, 24, 25, 26], [0, 1, 2, 3, 4, 5, 6, 7, 8, 9, 10, 11, 12, 13, 14, 15, 16, 17, 18, 19, 20, 21, 22, 23, 24], [0, 1, 2, 3, 4, 5, 6, 7, 8, 9, 10, 11, 12, 13, 14, 15, 16, 17, 18, 19, 20, 21, 22, 23, 24], [0, 1, 2, 3, 4, 5, 6, 7, 8, 9, 10, 11, 12, 13, 14, 15, 16, 17, 18, 19, 20, 21, 22, 23, 24, 25, 26, 27, 28, 29], [0, 1, 2, 3, 4, 5, 6, 7, 8, 9, 10, 11, 12, 13, 14, 15, 16, 17, 18, 19, 20, 21, 22, 23, 24, 25, 26, 27, 28, 29, 30], [0, 1, 2, 3, 4, 5, 6, 7, 8, 9, 10, 11, 12, 13, 14, 15, 16, 17, 18, 19, 20, 21, 22, 23, 24, 25, 26, 27, 28, 29, 30, 31], [0, 1, 2, 3, 4, 5, 6, 7, 8, 9, 10, 11, 12, 13, 14, 15, 16, 17, 18, 19, 20, 21, 22, 23, 24, 25, 26, 27, 28, 29, 30, 31, 32], [0, 1, 2, 3, 4, 5, 6, 7, 8, 9, 10, 11, 12, 13, 14, 15, 16, 17, 18, 19, 20, 21, 22, 23, 24, 25, 26, 27, 28, 29, 30, 31, 32, 33], [0, 1, 2, 3, 4, 5, 6, 7, 8, 9, 10, 11, 12, 13, 14, 15, 16, 17, 18, 19, 20, 21, 22, 23, 24, 25, 26, 27, 28, 29, 30, 31, 32, 33], [0, 1, 2, 3, 4, 5, 6, 7, 8, 9, 10, 11, 12, 13, 14, 15, 16, 17, 18, 19, 20, 21, 22, 23, 24, 25, 26, 27, 28, 29, 30, 31, 32, 33, 34, 35], [0, 1, 2, 3, 4, 5, 6, 7, 8, 9, 10, 11, 12, 13, 14, 15, 16, 17, 18, 19, 20, 21, 22, 23, 24, 25, 26, 27, 28, 29, 30, 31, 32, 33, 34, 35, 36], [0, 1, 2, 3, 4, 5, 6, 7, 8, 9, 10, 11, 12, 13, 14, 15, 16, 17, 18, 19, 20, 21, 22, 23, 24, 25, 26, 27, 28, 29, 30, 31, 32, 33, 34, 35, 36, 37], [0, 1, 2, 3, 4, 5, 6, 7, 8, 9, 10, 11, 12, 13, 14, 15, 16, 17, 18, 19, 20, 21, 22, 23, 24, 25, 26, 27, 28, 29, 30, 31, 32, 33, 34, 35, 36, 37, 38], [0, 1, 2, 3, 4, 5, 6, 7, 8, 9, 10, 11, 12, 13, 14, 15, 16, 17, 18, 19, 20, 21, 22, 23, 24, 25, 26, 27, 28, 29, 30, 31, 32, 33, 34, 35, 36, 37, 38, 39], [0, 1, 2, 3, 4, 5, 6, 7, 8, 9, 10, 11, 12, 13, 14, 15, 16, 17, 18, 19, 20, 21, 22, 23, 24, 25, 26, 27, 28, 29, 30, 31, 32, 33, 34, 35, 36, 37, 38, 39, 40]]) (nthL [[], [], [0, 1], [2], [3], [3], [3, 4, 5], [3, 6], [7], [8], [8, 9], [8], [8, 10, 11], [8, 12], [13], [14], [14], [14, 15, 16], [14, 17], [18], [19], [19], [19], [19, 22], [23], [24], [24], [24], [24], [24], [24], [24], [24, 31], [32], [33], [33], [33], [33, 36], [37], [38], [38, 39], [40]]) (nthK [.val (.int .i64 x36), .val (.int .i64 x72), .val (.bool (decide (x36 = x72))), .val (.bool true), .val (.int .i64 x54), .val (.int .i64 x72), .val (.bool (decide (x54 = x72))), .val (.bool (decide (x54 = x72))), .val (.bool true), .val (.agg #[(.int .i64 x5.Kind), (.int .i64 x5.Path), (.int .i64 x5.Number), (.int .i64 x5.Of), (.int .i64 x5.From), (.slice q29 x5.Data.length q30), (.bool x5.Fin), (.int .i64 x5.Seen), (.int .i64 x5.Limit)]), .val (.int .i64 x79), .val (.int .i64 x72), .val (.bool (decide (x79 = x72))), .val (.bool (decide (x79 = x72))), .val (.bool true), .val (.slice a41 x35.length c42), .val (.slice a50 x44.length c51), .val (.bool x91), .val (.bool x91), .val (.bool false), .val undef, .val undef, .val undef, .val (.bool false), .val (.bool false), .val undef, .val undef, .val undef, .val undef, .val undef, .val undef, .val undef, .val (.bool false), .val (.bool false), .val undef, .val undef, .val undef, .val (.bool false), .val (.bool false), .val undef, .val (.bool false), .val (.bool false)]) [⟨none, none, [9], [], fun _ => bl q27 #[(.int .i64 x5.Kind), (.int .i64 x5.Path), (.int .i64 x5.Number), (.int .i64 x5.Of), (.int .i64 x5.From), (.slice q29 x5.Data.length q30), (.bool x5.Fin), (.int .i64 x5.Seen), (.int .i64 x5.Limit)] 41⟩, ⟨none, (some 17), [], [], fun _ => OV 5 (.slice a41 x35.length c42) x35⟩, ⟨none, (some 17), [], [], fun _ => OV 5 (.slice a50 x44.length c51) x44⟩] (by kernel_rfl) (by kernel_rfl) (by kernel_rfl) (H := OV 5 (.slice a68 x62.length c69) x62 :: OV 5 (.slice a59 x53.length c60) x53 :: bl q28 #[(.int .i64 x13.Kind), (.int .i64 x13.Path), (.int .i64 x13.Number), (.int .i64 x13.Of), (.int .i64 x13.From), (.slice q32 x13.Data.length q33), (.bool x13.Fin), (.int .i64 x13.Seen), (.int .i64 x13.Limit)] 41 :: G) rfl ⟨?_, ?_, ?_, ?_, ?_, ?_, ?_, ?_, ?_, ?_, ?_, ?_, ?_, ?_, ?_, ?_, ?_, ?_, ?_, ?_, ?_, ?_, ?_, ?_, ?_, ?_, ?_, ?_, ?_, ?_, ?_, ?_, ?_, ?_, ?_, ?_, ?_, ?_, ?_, ?_, ?_, ?_, trivial⟩ ?_
        · intro Q ρ I1 H hI1 hk hpost
          have hc := Mem.le.refl I1
          refine mv rfl rfl ?_
          refine WL.nil ?_
          exact hpost _ _ hc rfl _ (fun _ hd => by obtain rfl := Option.some.inj hd; exact ⟨rfl, trivial⟩)
        · intro Q ρ I1 H hI1 hk hpost
          have hc := Mem.le.refl I1
          refine mv rfl rfl ?_
          refine WL.nil ?_
          exact hpost _ _ hc rfl _ (fun _ hd => by obtain rfl := Option.some.inj hd; exact ⟨rfl, trivial⟩)
        · intro Q ρ I1 H hI1 hk hpost
          obtain ⟨_, _, -⟩ := hk
          have hc := Mem.le.refl I1
          refine eq rfl rfl rfl ?_
          refine WL.nil ?_
          exact hpost _ _ hc rfl _ (fun _ hd => by obtain rfl := Option.some.inj hd; exact ⟨rfl, trivial⟩)
        · intro Q ρ I1 H hI1 hk hpost
          obtain ⟨_, -⟩ := hk
          have hc := Mem.le.refl I1
          refine mv rfl rfl ?_
          refine WL.nil ?_
          exact hpost _ _ hc (bT k77) _ (fun _ hd => by obtain rfl := Option.some.inj hd; exact ⟨rfl, trivial⟩)
        · intro Q ρ I1 H hI1 hk hpost
          obtain ⟨_, -⟩ := hk
          have hc := Mem.le.refl I1
          refine WL.on rfl rfl ?_
          refine mv rfl rfl ?_
          refine WL.nil ?_
          exact hpost _ _ hc rfl _ (fun _ hd => by obtain rfl := Option.some.inj hd; exact ⟨rfl, trivial⟩)
        · intro Q ρ I1 H hI1 hk hpost
          obtain ⟨_, -⟩ := hk
          have hc := Mem.le.refl I1
          refine WL.on rfl rfl ?_
          refine mv rfl rfl ?_
          refine WL.nil ?_
          exact hpost _ _ hc rfl _ (fun _ hd => by obtain rfl := Option.some.inj hd; exact ⟨rfl, trivial⟩)
        · intro Q ρ I1 H hI1 hk hpost
          obtain ⟨_, _, _, -⟩ := hk
          have hc := Mem.le.refl I1
          refine WL.on rfl rfl ?_
          refine eq rfl rfl rfl ?_
          refine WL.nil ?_
          exact hpost _ _ hc rfl _ (fun _ hd => by obtain rfl := Option.some.inj hd; exact ⟨rfl, trivial⟩)
        · intro Q ρ I1 H hI1 hk hpost
          obtain ⟨_, _, -⟩ := hk
          have hc := Mem.le.refl I1
          refine pkT rfl rfl rfl ?_
          refine WL.nil ?_
          exact hpost _ _ hc rfl _ (fun _ hd => by obtain rfl := Option.some.inj hd; exact ⟨rfl, trivial⟩)
        · intro Q ρ I1 H hI1 hk hpost
          obtain ⟨_, -⟩ := hk
          have hc := Mem.le.refl I1
          refine mv rfl rfl ?_
          refine WL.nil ?_
          exact hpost _ _ hc (bT k78) _ (fun _ hd => by obtain rfl := Option.some.inj hd; exact ⟨rfl, trivial⟩)
        · intro Q ρ I1 H hI1 hk hpost
          obtain ⟨_, -⟩ := hk
          have hc := Mem.le.refl I1
          refine WL.on rfl rfl ?_
          refine lda 0 ya41 rfl rfl rfl rfl rfl ?_
          refine WL.nil ?_
          exact hpost _ _ hc rfl _ (fun _ hd => by obtain rfl := Option.some.inj hd; exact ⟨rfl, trivial⟩)
        · intro Q ρ I1 H hI1 hk hpost
          obtain ⟨_, _, -⟩ := hk
          replace q31 := q31.up hI1
          have hc := Mem.le.refl I1
          refine WL.on rfl rfl ?_
          refine call cl32 rfl rfl (W32 e80 q31) (fun _ J81 _ hJ82 q83 => ?_)
          have hc := hc.trans hJ82
          replace q31 := q31.up hJ82
          obtain ⟨rfl, rfl⟩ := q83
          refine WL.nil ?_
          exact hpost _ _ hc rfl _ (fun _ hd => by obtain rfl := Option.some.inj hd; exact ⟨rfl, trivial⟩)
        · intro Q ρ I1 H hI1 hk hpost
          obtain ⟨_, -⟩ := hk
          have hc := Mem.le.refl I1
          refine WL.on rfl rfl ?_
          refine mv rfl rfl ?_
          refine WL.nil ?_
          exact hpost _ _ hc rfl _ (fun _ hd => by obtain rfl := Option.some.inj hd; exact ⟨rfl, trivial⟩)
        · intro Q ρ I1 H hI1 hk hpost
          obtain ⟨_, _, _, -⟩ := hk
          have hc := Mem.le.refl I1
          refine WL.on rfl rfl ?_
          refine eq rfl rfl rfl ?_
          refine WL.nil ?_
          exact hpost _ _ hc rfl _ (fun _ hd => by obtain rfl := Option.some.inj hd; exact ⟨rfl, trivial⟩)
        · intro Q ρ I1 H hI1 hk hpost
          obtain ⟨_, _, -⟩ := hk
          have hc := Mem.le.refl I1
          refine pkT rfl rfl rfl ?_
          refine WL.nil ?_
          exact hpost _ _ hc rfl _ (fun _ hd => by obtain rfl := Option.some.inj hd; exact ⟨rfl, trivial⟩)
        · intro Q ρ I1 H hI1 hk hpost
          obtain ⟨_, -⟩ := hk
          have hc := Mem.le.refl I1
          refine mv rfl rfl ?_
          refine WL.nil ?_
          exact hpost _ _ hc (bT k84) _ (fun _ hd => by obtain rfl := Option.some.inj hd; exact ⟨rfl, trivial⟩)
        · intro Q ρ I1 H hI1 hk hpost
          obtain ⟨_, -⟩ := hk
          have hc := Mem.le.refl I1
          refine WL.on rfl rfl ?_
          refine mv rfl rfl ?_
          refine WL.nil ?_
          exact hpost _ _ hc rfl _ (fun _ hd => by obtain rfl := Option.some.inj hd; exact ⟨rfl, trivial⟩)
        · intro Q ρ I1 H hI1 hk hpost
          obtain ⟨_, -⟩ := hk
          have hc := Mem.le.refl I1
          refine WL.on rfl rfl ?_
          refine mv rfl rfl ?_
          refine WL.nil ?_
          exact hpost _ _ hc rfl _ (fun _ hd => by obtain rfl := Option.some.inj hd; exact ⟨rfl, trivial⟩)
        · intro Q ρ I1 H hI1 hk hpost
          obtain ⟨_, _, _, -⟩ := hk
          have hc := Mem.le.refl I1
          refine WL.on rfl rfl ?_
          refine WL.freeze (fun J85 hJ86 h87 => ?_)
          have hc := hc.trans hJ86
          refine WL.freeze (fun J88 hJ89 h90 => ?_)
          have hc := hc.trans hJ89
          replace h87 := h87.up hJ89
          refine call cl17 rfl rfl (W17 e92 h87 h90) (fun _ J93 _ hJ94 q95 => ?_)
          have hc := hc.trans hJ94
          replace h87 := h87.up hJ94; replace h90 := h90.up hJ94
          obtain ⟨rfl, rfl⟩ := q95
          refine WL.nil ?_
          exact hpost _ _ hc rfl _ (fun _ hd => by obtain rfl := Option.some.inj hd; exact ⟨rfl, trivial⟩)
        · intro Q ρ I1 H hI1 hk hpost
          obtain ⟨_, _, -⟩ := hk
          have hc := Mem.le.refl I1
          refine pkT rfl rfl rfl ?_
          refine WL.nil ?_
          exact hpost _ _ hc rfl _ (fun _ hd => by obtain rfl := Option.some.inj hd; exact ⟨rfl, trivial⟩)
        · intro Q ρ I1 H hI1 hk hpost
          obtain ⟨_, -⟩ := hk
          have hc := Mem.le.refl I1
          refine mv rfl rfl ?_
          refine WL.nil ?_
          exact hpost _ _ hc (bf1 k96) _ (fun _ hd => by obtain rfl := Option.some.inj hd; exact ⟨rfl, trivial⟩)
        · intro Q ρ I1 H hI1 hk hpost
          obtain ⟨_, -⟩ := hk
          have hc := Mem.le.refl I1
          refine WL.no rfl rfl rfl rfl ?_
          refine WL.nil ?_
          exact hpost _ _ hc rfl _ (fun _ hd => by obtain rfl := Option.some.inj hd; exact ⟨rfl, trivial⟩)
        · intro Q ρ I1 H hI1 hk hpost
          obtain ⟨_, -⟩ := hk
          have hc := Mem.le.refl I1
          refine WL.no rfl rfl rfl rfl ?_
          refine WL.nil ?_
          exact hpost _ _ hc rfl _ (fun _ hd => by obtain rfl := Option.some.inj hd; exact ⟨rfl, trivial⟩)
        · intro Q ρ I1 H hI1 hk hpost
          obtain ⟨_, -⟩ := hk
          have hc := Mem.le.refl I1
          refine WL.no rfl rfl rfl rfl ?_
          refine WL.nil ?_
          exact hpost _ _ hc rfl _ (fun _ hd => by obtain rfl := Option.some.inj hd; exact ⟨rfl, trivial⟩)
        · intro Q ρ I1 H hI1 hk hpost
          obtain ⟨_, _, -⟩ := hk
          have hc := Mem.le.refl I1
          refine pkF rfl rfl rfl ?_
          refine WL.nil ?_
          exact hpost _ _ hc rfl _ (fun _ hd => by obtain rfl := Option.some.inj hd; exact ⟨rfl, trivial⟩)
        · intro Q ρ I1 H hI1 hk hpost
          obtain ⟨_, -⟩ := hk
          have hc := Mem.le.refl I1
          refine mv rfl rfl ?_
          refine WL.nil ?_
          exact hpost _ _ hc rfl _ (fun _ hd => by obtain rfl := Option.some.inj hd; exact ⟨rfl, trivial⟩)
        · intro Q ρ I1 H hI1 hk hpost
          obtain ⟨_, -⟩ := hk
          have hc := Mem.le.refl I1
          refine WL.no rfl rfl rfl rfl ?_
          refine WL.nil ?_
          exact hpost _ _ hc rfl _ (fun _ hd => by obtain rfl := Option.some.inj hd; exact ⟨rfl, trivial⟩)
        · intro Q ρ I1 H hI1 hk hpost
          obtain ⟨_, -⟩ := hk
          have hc := Mem.le.refl I1
          refine WL.no rfl rfl rfl rfl ?_
          refine WL.nil ?_
          exact hpost _ _ hc rfl _ (fun _ hd => by obtain rfl := Option.some.inj hd; exact ⟨rfl, trivial⟩)
        · intro Q ρ I1 H hI1 hk hpost
          obtain ⟨_, -⟩ := hk
          have hc := Mem.le.refl I1
          refine WL.no rfl rfl rfl rfl ?_
          refine WL.nil ?_
          exact hpost _ _ hc rfl _ (fun _ hd => by obtain rfl := Option.some.inj hd; exact ⟨rfl, trivial⟩)
        · intro Q ρ I1 H hI1 hk hpost
          obtain ⟨_, -⟩ := hk
          have hc := Mem.le.refl I1
          refine WL.no rfl rfl rfl rfl ?_
          refine WL.nil ?_
          exact hpost _ _ hc rfl _ (fun _ hd => by obtain rfl := Option.some.inj hd; exact ⟨rfl, trivial⟩)
        · intro Q ρ I1 H hI1 hk hpost
          obtain ⟨_, -⟩ := hk
          have hc := Mem.le.refl I1
          refine WL.no rfl rfl rfl rfl ?_
          refine WL.nil ?_
          exact hpost _ _ hc rfl _ (fun _ hd => by obtain rfl := Option.some.inj hd; exact ⟨rfl, trivial⟩)
        · intro Q ρ I1 H hI1 hk hpost
          obtain ⟨_, -⟩ := hk
          have hc := Mem.le.refl I1
          refine WL.no rfl rfl rfl rfl ?_
          refine WL.nil ?_
          exact hpost _ _ hc rfl _ (fun _ hd => by obtain rfl := Option.some.inj hd; exact ⟨rfl, trivial⟩)
        · intro Q ρ I1 H hI1 hk hpost
          obtain ⟨_, -⟩ := hk
          have hc := Mem.le.refl I1
          refine WL.no rfl rfl rfl rfl ?_
          refine WL.nil ?_
          exact hpost _ _ hc rfl _ (fun _ hd => by obtain rfl := Option.some.inj hd; exact ⟨rfl, trivial⟩)
        · intro Q ρ I1 H hI1 hk hpost
          obtain ⟨_, _, -⟩ := hk
          have hc := Mem.le.refl I1
          refine pkF rfl rfl rfl ?_
          refine WL.nil ?_
          exact hpost _ _ hc rfl _ (fun _ hd => by obtain rfl := Option.some.inj hd; exact ⟨rfl, trivial⟩)
        · intro Q ρ I1 H hI1 hk hpost
          obtain ⟨_, -⟩ := hk
          have hc := Mem.le.refl I1
          refine mv rfl rfl ?_
          refine WL.nil ?_
          exact hpost _ _ hc rfl _ (fun _ hd => by obtain rfl := Option.some.inj hd; exact ⟨rfl, trivial⟩)
        · intro Q ρ I1 H hI1 hk hpost
          obtain ⟨_, -⟩ := hk
          have hc := Mem.le.refl I1
          refine WL.no rfl rfl rfl rfl ?_
          refine WL.nil ?_
          exact hpost _ _ hc rfl _ (fun _ hd => by obtain rfl := Option.some.inj hd; exact ⟨rfl, trivial⟩)
        · intro Q ρ I1 H hI1 hk hpost
          obtain ⟨_, -⟩ := hk
          have hc := Mem.le.refl I1
          refine WL.no rfl rfl rfl rfl ?_
          refine WL.nil ?_
          exact hpost _ _ hc rfl _ (fun _ hd => by obtain rfl := Option.some.inj hd; exact ⟨rfl, trivial⟩)
        · intro Q ρ I1 H hI1 hk hpost
          obtain ⟨_, -⟩ := hk
          have hc := Mem.le.refl I1
          refine WL.no rfl rfl rfl rfl ?_
          refine WL.nil ?_
          exact hpost _ _ hc rfl _ (fun _ hd => by obtain rfl := Option.some.inj hd; exact ⟨rfl, trivial⟩)
        · intro Q ρ I1 H hI1 hk hpost
          obtain ⟨_, _, -⟩ := hk
          have hc := Mem.le.refl I1
          refine pkF rfl rfl rfl ?_
          refine WL.nil ?_
          exact hpost _ _ hc rfl _ (fun _ hd => by obtain rfl := Option.some.inj hd; exact ⟨rfl, trivial⟩)
        · intro Q ρ I1 H hI1 hk hpost
          obtain ⟨_, -⟩ := hk
          have hc := Mem.le.refl I1
          refine mv rfl rfl ?_
          refine WL.nil ?_
          exact hpost _ _ hc rfl _ (fun _ hd => by obtain rfl := Option.some.inj hd; exact ⟨rfl, trivial⟩)
        · intro Q ρ I1 H hI1 hk hpost
          obtain ⟨_, -⟩ := hk
          have hc := Mem.le.refl I1
          refine WL.no rfl rfl rfl rfl ?_
          refine WL.nil ?_
          exact hpost _ _ hc rfl _ (fun _ hd => by obtain rfl := Option.some.inj hd; exact ⟨rfl, trivial⟩)
        · intro Q ρ I1 H hI1 hk hpost
          obtain ⟨_, _, -⟩ := hk
          have hc := Mem.le.refl I1
          refine pkF rfl rfl rfl ?_
          refine WL.nil ?_
          exact hpost _ _ hc rfl _ (fun _ hd => by obtain rfl := Option.some.inj hd; exact ⟨rfl, trivial⟩)
        · intro Q ρ I1 H hI1 hk hpost
          obtain ⟨_, -⟩ := hk
          have hc := Mem.le.refl I1
          refine asg rfl rfl ?_
          refine WL.nil ?_
          exact hpost _ _ hc rfl _ (fun _ hd => by obtain rfl := Option.some.inj hd; exact ⟨rfl, trivial⟩)
        rintro ρ J139 hJ140 -
        refine WX.sub (r := [(8, (.bool false))]) ?_ ⟨rfl, trivial⟩
        refine WX.is (H := bl q27 #[(.int .i64 x5.Kind), (.int .i64 x5.Path), (.int .i64 x5.Number), (.int .i64 x5.Of), (.int .i64 x5.From), (.slice q29 x5.Data.length q30), (.bool x5.Fin), (.int .i64 x5.Seen), (.int .i64 x5.Limit)] 41 :: OV 5 (.slice a68 x62.length c69) x62 :: OV 5 (.slice a59 x53.length c60) x53 :: bl q28 #[(.int .i64 x13.Kind), (.int .i64 x13.Path), (.int .i64 x13.Number), (.int .i64 x13.Of), (.int .i64 x13.From), (.slice q32 x13.Data.length q33), (.bool x13.Fin), (.int .i64 x13.Seen), (.int .i64 x13.Limit)] 41 :: G) rfl ?_
        have hI := hI.trans hJ140
        replace q31 := q31.up hJ140; replace q34 := q34.up hJ140
        refine WX.then_ ?_
        refine WC.ret ?_
        cases h
        refine WX.del 0 ?_
        refine WX.del 0 ?_
        refine WX.del 0 ?_
        refine WX.del 0 ?_
        exact ret1 Try.results7 rfl hI ⟨rfl, rfl⟩
      refine WC.front 4 ?_
      refine WC.drawn mo (nthL [[], [], [0, 1], [0, 1, 2], [0, 1, 2, 3], [0, 1, 2, 3], [0, 1, 2, 3, 4, 5], [0, 1, 2, 3, 4, 5, 6], [0, 1, 2, 3, 4, 5, 6, 7], [0, 1, 2, 3, 4, 5, 6, 7, 8], [0, 1, 2, 3, 4, 5, 6, 7, 8, 9], [0, 1, 2, 3, 4, 5, 6, 7, 8], [0, 1, 2, 3, 4, 5, 6, 7, 8, 9, 10, 11], [0, 1, 2, 3, 4, 5, 6, 7, 8, 9, 10, 11, 12], [0, 1, 2, 3, 4, 5, 6, 7, 8, 9, 10, 11, 12, 13], [0, 1, 2, 3, 4, 5, 6, 7, 8, 9, 10, 11, 12, 13, 14], [0, 1, 2, 3, 4, 5, 6, 7, 8, 9, 10, 11, 12, 13, 14], [0, 1, 2, 3, 4, 5, 6, 7, 8, 9, 10, 11, 12, 13, 14, 15, 16], [0, 1, 2, 3, 4, 5, 6, 7, 8, 9, 10, 11, 12, 13, 14, 15, 16, 17], [0, 1, 2, 3, 4, 5, 6, 7, 8, 9, 10, 11, 12, 13, 14, 15, 16, 17, 18], [0, 1, 2, 3, 4, 5, 6, 7, 8, 9, 10, 11, 12, 13, 14, 15, 16, 17, 18, 19], [0, 1, 2, 3, 4, 5, 6, 7, 8, 9, 10, 11, 12, 13, 14, 15, 16, 17, 18, 19], [0, 1, 2, 3, 4, 5, 6, 7, 8, 9, 10, 11, 12, 13, 14, 15, 16, 17, 18, 19, 20, 21], [0, 1, 2, 3, 4, 5, 6, 7, 8, 9, 10, 11, 12, 13, 14, 15, 16, 17, 18, 19, 20, 21, 22], [0, 1, 2, 3, 4, 5, 6, 7, 8, 9, 10, 11, 12, 13, 14, 15, 16, 17, 18, 19, 20, 21, 22, 23], [0, 1, 2, 3, 4, 5, 6, 7, 8, 9, 10, 11, 12, 13, 14, 15, 16, 17, 18, 19, 20, 21, 22, 23, 24], [0, 1, 2, 3, 4, 5, 6, 7, 8, 9, 10, 11, 12, 13, 14, 15, 16, 17, 18, 19, 20, 21, 22, 23, 24], [0, 1, 2, 3, 4, 5, 6, 7, 8, 9, 10, 11, 12, 13, 14, 15, 16, 17, 18, 19, 20, 21, 22, 23, 24, 25, 26], [0, 1, 2, 3, 4, 5, 6, 7, 8, 9, 10, 11, 12, 13, 14, 15, 16, 17, 18, 19, 20, 21, 22, 23, 24], [0, 1, 2, 3, 4, 5, 6, 7, 8, 9, 10, 11, 12, 13, 14, 15, 16, 17, 18, 19, 20, 21, 22, 23, 24], [0, 1, 2, 3, 4, 5, 6, 7, 8, 9, 10, 11, 12, 13, 14, 15, 16, 17, 18, 19, 20, 21, 22, 23, 24, 25, 26, 27, 28, 29], [0, 1, 2, 3, 4, 5, 6, 7, 8, 9, 10, 11, 12, 13, 14, 15, 16, 17, 18, 19, 20, 21, 22, 23, 24, 25, 26, 27, 28, 29, 30], [0, 1, 2, 3, 4, 5, 6, 7, 8, 9, 10, 11, 12, 13, 14, 15, 16, 17, 18, 19, 20, 21, 22, 23, 24, 25, 26, 27, 28, 29, 30, 31], [0, 1, 2, 3, 4, 5, 6, 7, 8, 9, 10, 11, 12, 13, 14, 15, 16, 17, 18, 19, 20, 21, 22, 23, 24, 25, 26, 27, 28, 29, 30, 31, 32], [0, 1, 2, 3, 4, 5, 6, 7, 8, 9, 10, 11, 12, 13, 14, 15, 16, 17, 18, 19, 20, 21, 22, 23, 24, 25, 26, 27, 28, 29, 30, 31, 32, 33], [0, 1, 2, 3, 4, 5, 6, 7, 8, 9, 10, 11, 12, 13, 14, 15, 16, 17, 18, 19, 20, 21, 22, 23, 24, 25, 26, 27, 28, 29, 30, 31, 32, 33], [0, 1, 2, 3, 4, 5, 6, 7, 8, 9, 10, 11, 12, 13, 14, 15, 16, 17, 18, 19, 20, 21, 22, 23, 24, 25, 26, 27, 28, 29, 30, 31, 32, 33, 34, 35], [0, 1, 2, 3, 4, 5, 6, 7, 8, 9, 10, 11, 12, 13, 14, 15, 16, 17, 18, 19, 20, 21, 22, 23, 24, 25, 26, 27, 28, 29, 30, 31, 32, 33, 34, 35, 36], [0, 1, 2, 3, 4, 5, 6, 7, 8, 9, 10, 11, 12, 13, 14, 15, 16, 17, 18, 19, 20, 21, 22, 23, 24, 25, 26, 27, 28, 29, 30, 31, 32, 33, 34, 35, 36, 37], [0, 1, 2, 3, 4, 5, 6, 7, 8, 9, 10, 11, 12, 13, 14, 15, 16, 17, 18, 19, 20, 21, 22, 23, 24, 25, 26, 27, 28, 29, 30, 31, 32, 33, 34, 35, 36, 37, 38], [0, 1, 2, 3, 4, 5, 6, 7, 8, 9, 10, 11, 12, 13, 14, 15, 16, 17, 18, 19, 20, 21, 22, 23, 24, 25, 26, 27, 28, 29, 30, 31, 32, 33, 34, 35, 36, 37, 38, 39], [0, 1, 2, 3, 4, 5, 6, 7, 8, 9, 10, 11, 12, 13, 14, 15, 16, 17, 18, 19, 20, 21, 22, 23, 24, 25, 26, 27, 28, 29, 30, 31, 32, 33, 34, 35, 36, 37, 38, 39, 40]]) (nthL [[], [], [0, 1], [2], [3], [3], [3, 4, 5], [3, 6], [7], [8], [8, 9], [8], [8, 10, 11], [8, 12], [13], [14], [14], [14], [14, 17], [18], [19], [19], [19], [19, 22], [23], [24], [24], [24], [24], [24], [24], [24], [24, 31], [32], [33], [33], [33], [33, 36], [37], [38], [38, 39], [40]]) (nthK [.val (.int .i64 x36), .val (.int .i64 x72), .val (.bool (decide (x36 = x72))), .val (.bool true), .val (.int .i64 x54), .val (.int .i64 x72), .val (.bool (decide (x54 = x72))), .val (.bool (decide (x54 = x72))), .val (.bool true), .val (.agg #[(.int .i64 x5.Kind), (.int .i64 x5.Path), (.int .i64 x5.Number), (.int .i64 x5.Of), (.int .i64 x5.From), (.slice q29 x5.Data.length q30), (.bool x5.Fin), (.int .i64 x5.Seen), (.int .i64 x5.Limit)]), .val (.int .i64 x79), .val (.int .i64 x72), .val (.bool (decide (x79 = x72))), .val (.bool (decide (x79 = x72))), .val (.bool false), .val undef, .val undef, .val undef, .val (.bool false), .val (.bool false), .val undef, .val undef, .val undef, .val (.bool false), .val (.bool false), .val undef, .val undef, .val undef, .val undef, .val undef, .val undef, .val undef, .val (.bool false), .val (.bool false), .val undef, .val undef, .val undef, .val (.bool false), .val (.bool false), .val undef, .val (.bool false), .val (.bool false)]) [⟨none, none, [9], [], fun _ => bl q27 #[(.int .i64 x5.Kind), (.int .i64 x5.Path), (.int .i64 x5.Number), (.int .i64 x5.Of), (.int .i64 x5.From), (.slice q29 x5.Data.length q30), (.bool x5.Fin), (.int .i64 x5.Seen), (.int .i64 x5.Limit)] 41⟩] (by kernel_rfl) (by kernel_rfl) (by kernel_rfl) (H := OV 5 (.slice a68 x62.length c69) x62 :: OV 5 (.slice a59 x53.length c60) x53 :: OV 5 (.slice a50 x44.length c51) x44 :: OV 5 (.slice a41 x35.length c42) x35 :: bl q28 #[(.int .i64 x13.Kind), (.int .i64 x13.Path), (.int .i64 x13.Number), (.int .i64 x13.Of), (.int .i64 x13.From), (.slice q32 x13.Data.length q33), (.bool x13.Fin), (.int .i64 x13.Seen), (.int .i64 x13.Limit)] 41 :: G) rfl ⟨?_, ?_, ?_, ?_, ?_, ?_, ?_, ?_, ?_, ?_, ?_, ?_, ?_, ?_, ?_, ?_, ?_, ?_, ?_, ?_, ?_, ?_, ?_, ?_, ?_, ?_, ?_, ?_, ?_, ?_, ?_, ?_, ?_, ?_, ?_, ?_, ?_, ?_, ?_, ?_, ?_, ?_, trivial⟩ ?_
      · intro Q ρ I1 H hI1 hk hpost
        have hc := Mem.le.refl I1
        refine mv rfl rfl ?_
        refine WL.nil ?_
        exact hpost _ _ hc rfl _ (fun _ hd => by obtain rfl := Option.some.inj hd; exact ⟨rfl, trivial⟩)
      · intro Q ρ I1 H hI1 hk hpost
        have hc := Mem.le.refl I1
        refine mv rfl rfl ?_
        refine WL.nil ?_
        exact hpost _ _ hc rfl _ (fun _ hd => by obtain rfl := Option.some.inj hd; exact ⟨rfl, trivial⟩)
      · intro Q ρ I1 H hI1 hk hpost
        obtain ⟨_, _, -⟩ := hk
        have hc := Mem.le.refl I1
        refine eq rfl rfl rfl ?_
        refine WL.nil ?_
        exact hpost _ _ hc rfl _ (fun _ hd => by obtain rfl := Option.some.inj hd; exact ⟨rfl, trivial⟩)
      · intro Q ρ I1 H hI1 hk hpost
        obtain ⟨_, -⟩ := hk
        have hc := Mem.le.refl I1
        refine mv rfl rfl ?_
        refine WL.nil ?_
        exact hpost _ _ hc (bT k77) _ (fun _ hd => by obtain rfl := Option.some.inj hd; exact ⟨rfl, trivial⟩)
      · intro Q ρ I1 H hI1 hk hpost
        obtain ⟨_, -⟩ := hk
        have hc := Mem.le.refl I1
        refine WL.on rfl rfl ?_
        refine mv rfl rfl ?_
        refine WL.nil ?_
        exact hpost _ _ hc rfl _ (fun _ hd => by obtain rfl := Option.some.inj hd; exact ⟨rfl, trivial⟩)
      · intro Q ρ I1 H hI1 hk hpost
        obtain ⟨_, -⟩ := hk
        have hc := Mem.le.refl I1
        refine WL.on rfl rfl ?_
        refine mv rfl rfl ?_
        refine WL.nil ?_
        exact hpost _ _ hc rfl _ (fun _ hd => by obtain rfl := Option.some.inj hd; exact ⟨rfl, trivial⟩)
      · intro Q ρ I1 H hI1 hk hpost
        obtain ⟨_, _, _, -⟩ := hk
        have hc := Mem.le.refl I1
        refine WL.on rfl rfl ?_
        refine eq rfl rfl rfl ?_
        refine WL.nil ?_
        exact hpost _ _ hc rfl _ (fun _ hd => by obtain rfl := Option.some.inj hd; exact ⟨rfl, trivial⟩)
      · intro Q ρ I1 H hI1 hk hpost
        obtain ⟨_, _, -⟩ := hk
        have hc := Mem.le.refl I1
        refine pkT rfl rfl rfl ?_
        refine WL.nil ?_
        exact hpost _ _ hc rfl _ (fun _ hd => by obtain rfl := Option.some.inj hd; exact ⟨rfl, trivial⟩)
      · intro Q ρ I1 H hI1 hk hpost
        obtain ⟨_, -⟩ := hk
        have hc := Mem.le.refl I1
        refine mv rfl rfl ?_
        refine WL.nil ?_
        exact hpost _ _ hc (bT k78) _ (fun _ hd => by obtain rfl := Option.some.inj hd; exact ⟨rfl, trivial⟩)
      · intro Q ρ I1 H hI1 hk hpost
        obtain ⟨_, -⟩ := hk
        have hc := Mem.le.refl I1
        refine WL.on rfl rfl ?_
        refine lda 0 ya41 rfl rfl rfl rfl rfl ?_
        refine WL.nil ?_
        exact hpost _ _ hc rfl _ (fun _ hd => by obtain rfl := Option.some.inj hd; exact ⟨rfl, trivial⟩)
      · intro Q ρ I1 H hI1 hk hpost
        obtain ⟨_, _, -⟩ := hk
        replace q31 := q31.up hI1
        have hc := Mem.le.refl I1
        refine WL.on rfl rfl ?_
        refine call cl32 rfl rfl (W32 e80 q31) (fun _ J81 _ hJ82 q83 => ?_)
        have hc := hc.trans hJ82
        replace q31 := q31.up hJ82
        obtain ⟨rfl, rfl⟩ := q83
        refine WL.nil ?_
        exact hpost _ _ hc rfl _ (fun _ hd => by obtain rfl := Option.some.inj hd; exact ⟨rfl, trivial⟩)
      · intro Q ρ I1 H hI1 hk hpost
        obtain ⟨_, -⟩ := hk
        have hc := Mem.le.refl I1
        refine WL.on rfl rfl ?_
        refine mv rfl rfl ?_
        refine WL.nil ?_
        exact hpost _ _ hc rfl _ (fun _ hd => by obtain rfl := Option.some.inj hd; exact ⟨rfl, trivial⟩)
      · intro Q ρ I1 H hI1 hk hpost
        obtain ⟨_, _, _, -⟩ := hk
        have hc := Mem.le.refl I1
        refine WL.on rfl rfl ?_
        refine eq rfl rfl rfl ?_
        refine WL.nil ?_
        exact hpost _ _ hc rfl _ (fun _ hd => by obtain rfl := Option.some.inj hd; exact ⟨rfl, trivial⟩)
      · intro Q ρ I1 H hI1 hk hpost
        obtain ⟨_, _, -⟩ := hk
        have hc := Mem.le.refl I1
        refine pkT rfl rfl rfl ?_
        refine WL.nil ?_
        exact hpost _ _ hc rfl _ (fun _ hd => by obtain rfl := Option.some.inj hd; exact ⟨rfl, trivial⟩)
      · intro Q ρ I1 H hI1 hk hpost
        obtain ⟨_, -⟩ := hk
        have hc := Mem.le.refl I1
        refine mv rfl rfl ?_
        refine WL.nil ?_
        exact hpost _ _ hc (bF k84) _ (fun _ hd => by obtain rfl := Option.some.inj hd; exact ⟨rfl, trivial⟩)
      · intro Q ρ I1 H hI1 hk hpost
        obtain ⟨_, -⟩ := hk
        have hc := Mem.le.refl I1
        refine WL.no rfl rfl rfl rfl ?_
        refine WL.nil ?_
        exact hpost _ _ hc rfl _ (fun _ hd => by obtain rfl := Option.some.inj hd; exact ⟨rfl, trivial⟩)
      · intro Q ρ I1 H hI1 hk hpost
        obtain ⟨_, -⟩ := hk
        have hc := Mem.le.refl I1
        refine WL.no rfl rfl rfl rfl ?_
        refine WL.nil ?_
        exact hpost _ _ hc rfl _ (fun _ hd => by obtain rfl := Option.some.inj hd; exact ⟨rfl, trivial⟩)
      · intro Q ρ I1 H hI1 hk hpost
        obtain ⟨_, -⟩ := hk
        have hc := Mem.le.refl I1
        refine WL.no rfl rfl rfl rfl ?_
        refine WL.nil ?_
        exact hpost _ _ hc rfl _ (fun _ hd => by obtain rfl := Option.some.inj hd; exact ⟨rfl, trivial⟩)
      · intro Q ρ I1 H hI1 hk hpost
        obtain ⟨_, _, -⟩ := hk
        have hc := Mem.le.refl I1
        refine pkF rfl rfl rfl ?_
        refine WL.nil ?_
        exact hpost _ _ hc rfl _ (fun _ hd => by obtain rfl := Option.some.inj hd; exact ⟨rfl, trivial⟩)
      · intro Q ρ I1 H hI1 hk hpost
        obtain ⟨_, -⟩ := hk
        have hc := Mem.le.refl I1
        refine mv rfl rfl ?_
        refine WL.nil ?_
        exact hpost _ _ hc rfl _ (fun _ hd => by obtain rfl := Option.some.inj hd; exact ⟨rfl, trivial⟩)
      · intro Q ρ I1 H hI1 hk hpost
        obtain ⟨_, -⟩ := hk
        have hc := Mem.le.refl I1
        refine WL.no rfl rfl rfl rfl ?_
        refine WL.nil ?_
        exact hpost _ _ hc rfl _ (fun _ hd => by obtain rfl := Option.some.inj hd; exact ⟨rfl, trivial⟩)
      · intro Q ρ I1 H hI1 hk hpost
        obtain ⟨_, -⟩ := hk
        have hc := Mem.le.refl I1
        refine WL.no rfl rfl rfl rfl ?_
        refine WL.nil ?_
        exact hpost _ _ hc rfl _ (fun _ hd => by obtain rfl := Option.some.inj hd; exact ⟨rfl, trivial⟩)
      · intro Q ρ I1 H hI1 hk hpost
        obtain ⟨_, -⟩ := hk
        have hc := Mem.le.refl I1
        refine WL.no rfl rfl rfl rfl ?_
        refine WL.nil ?_
        exact hpost _ _ hc rfl _ (fun _ hd => by obtain rfl := Option.some.inj hd; exact ⟨rfl, trivial⟩)
      · intro Q ρ I1 H hI1 hk hpost
        obtain ⟨_, _, -⟩ := hk
        have hc := Mem.le.refl I1
        refine pkF rfl rfl rfl ?_
        refine WL.nil ?_
        exact hpost _ _ hc rfl _ (fun _ hd => by obtain rfl := Option.some.inj hd; exact ⟨rfl, trivial⟩)
      · intro Q ρ I1 H hI1 hk hpost
        obtain ⟨_, -⟩ := hk
        have hc := Mem.le.refl I1
        refine mv rfl rfl ?_
        refine WL.nil ?_
        exact hpost _ _ hc rfl _ (fun _ hd => by obtain rfl := Option.some.inj hd; exact ⟨rfl, trivial⟩)
      · intro Q ρ I1 H hI1 hk hpost
        obtain ⟨_, -⟩ := hk
        have hc := Mem.le.refl I1
        refine WL.no rfl rfl rfl rfl ?_
        refine WL.nil ?_
        exact hpost _ _ hc rfl _ (fun _ hd => by obtain rfl := Option.some.inj hd; exact ⟨rfl, trivial⟩)
      · intro Q ρ I1 H hI1 hk hpost
        obtain ⟨_, -⟩ := hk
        have hc := Mem.le.refl I1
        refine WL.no rfl rfl rfl rfl ?_
        refine WL.nil ?_
        exact hpost _ _ hc rfl _ (fun _ hd => by obtain rfl := Option.some.inj hd; exact ⟨rfl, trivial⟩)
      · intro Q ρ I1 H hI1 hk hpost
        obtain ⟨_, -⟩ := hk
        have hc := Mem.le.refl I1
        refine WL.no rfl rfl rfl rfl ?_
        refine WL.nil ?_
        exact hpost _ _ hc rfl _ (fun _ hd => by obtain rfl := Option.some.inj hd; exact ⟨rfl, trivial⟩)
      · intro Q ρ I1 H hI1 hk hpost
        obtain ⟨_, -⟩ := hk
        have hc := Mem.le.refl I1
        refine WL.no rfl rfl rfl rfl ?_
        refine WL.nil ?_
        exact hpost _ _ hc rfl _ (fun _ hd => by obtain rfl := Option.some.inj hd; exact ⟨rfl, trivial⟩)
      · intro Q ρ I1 H hI1 hk hpost
        obtain ⟨_, -⟩ := hk
        have hc := Mem.le.refl I1
        refine WL.no rfl rfl rfl rfl ?_
        refine WL.nil ?_
        exact hpost _ _ hc rfl _ (fun _ hd => by obtain rfl := Option.some.inj hd; exact ⟨rfl, trivial⟩)
      · intro Q ρ I1 H hI1 hk hpost
        obtain ⟨_, -⟩ := hk
        have hc := Mem.le.refl I1
        refine WL.no rfl rfl rfl rfl ?_
        refine WL.nil ?_
        exact hpost _ _ hc rfl _ (fun _ hd => by obtain rfl := Option.some.inj hd; exact ⟨rfl, trivial⟩)
      · intro Q ρ I1 H hI1 hk hpost
        obtain ⟨_, -⟩ := hk
        have hc := Mem.le.refl I1
        refine WL.no rfl rfl rfl rfl ?_
        refine WL.nil ?_
        exact hpost _ _ hc rfl _ (fun _ hd => by obtain rfl := Option.some.inj hd; exact ⟨rfl, trivial⟩)
      · intro Q ρ I1 H hI1 hk hpost
        obtain ⟨_, _, -⟩ := hk
        have hc := Mem.le.refl I1
        refine pkF rfl rfl rfl ?_
        refine WL.nil ?_
        exact hpost _ _ hc rfl _ (fun _ hd => by obtain rfl := Option.some.inj hd; exact ⟨rfl, trivial⟩)
      · intro Q ρ I1 H hI1 hk hpost
        obtain ⟨_, -⟩ := hk
        have hc := Mem.le.refl I1
        refine mv rfl rfl ?_
        refine WL.nil ?_
        exact hpost _ _ hc rfl _ (fun _ hd => by obtain rfl := Option.some.inj hd; exact ⟨rfl, trivial⟩)
      · intro Q ρ I1 H hI1 hk hpost
        obtain ⟨_, -⟩ := hk
        have hc := Mem.le.refl I1
        refine WL.no rfl rfl rfl rfl ?_
        refine WL.nil ?_
        exact hpost _ _ hc rfl _ (fun _ hd => by obtain rfl := Option.some.inj hd; exact ⟨rfl, trivial⟩)
      · intro Q ρ I1 H hI1 hk hpost
        obtain ⟨_, -⟩ := hk
        have hc := Mem.le.refl I1
        refine WL.no rfl rfl rfl rfl ?_
        refine WL.nil ?_
        exact hpost _ _ hc rfl _ (fun _ hd => by obtain rfl := Option.some.inj hd; exact ⟨rfl, trivial⟩)
      · intro Q ρ I1 H hI1 hk hpost
        obtain ⟨_, -⟩ := hk
        have hc := Mem.le.refl I1
        refine WL.no rfl rfl rfl rfl ?_
        refine WL.nil ?_
        exact hpost _ _ hc rfl _ (fun _ hd => by obtain rfl := Option.some.inj hd; exact ⟨rfl, trivial⟩)
      · intro Q ρ I1 H hI1 hk hpost
        obtain ⟨_, _, -⟩ := hk
        have hc := Mem.le.refl I1
        refine pkF rfl rfl rfl ?_
        refine WL.nil ?_
        exact hpost _ _ hc rfl _ (fun _ hd => by obtain rfl := Option.some.inj hd; exact ⟨rfl, trivial⟩)
      · intro Q ρ I1 H hI1 hk hpost
        obtain ⟨_, -⟩ := hk
        have hc := Mem.le.refl I1
        refine mv rfl rfl ?_
        refine WL.nil ?_
        exact hpost _ _ hc rfl _ (fun _ hd => by obtain rfl := Option.some.inj hd; exact ⟨rfl, trivial⟩)
      · intro Q ρ I1 H hI1 hk hpost
        obtain ⟨_, -⟩ := hk
        have hc := Mem.le.refl I1
        refine WL.no rfl rfl rfl rfl ?_
        refine WL.nil ?_
        exact hpost _ _ hc rfl _ (fun _ hd => by obtain rfl := Option.some.inj hd; exact ⟨rfl, trivial⟩)
      · intro Q ρ I1 H hI1 hk hpost
        obtain ⟨_, _, -⟩ := hk
        have hc := Mem.le.refl I1
        refine pkF rfl rfl rfl ?_
        refine WL.nil ?_
        exact hpost _ _ hc rfl _ (fun _ hd => by obtain rfl := Option.some.inj hd; exact ⟨rfl, trivial⟩)
      · intro Q ρ I1 H hI1 hk hpost
        obtain ⟨_, -⟩ := hk
        have hc := Mem.le.refl I1
        refine asg rfl rfl ?_
        refine WL.nil ?_
        exact hpost _ _ hc rfl _ (fun _ hd => by obtain rfl := Option.some.inj hd; exact ⟨rfl, trivial⟩)
      rintro ρ J141 hJ142 -
      refine WX.sub (r := [(8, (.bool false))]) ?_ ⟨rfl, trivial⟩
      refine WX.is (H := bl q27 #[(.int .i64 x5.Kind), (.int .i64 x5.Path), (.int .i64 x5.Number), (.int .i64 x5.Of), (.int .i64 x5.From), (.slice q29 x5.Data.length q30), (.bool x5.Fin), (.int .i64 x5.Seen), (.int .i64 x5.Limit)] 41 :: OV 5 (.slice a68 x62.length c69) x62 :: OV 5 (.slice a59 x53.length c60) x53 :: OV 5 (.slice a50 x44.length c51) x44 :: OV 5 (.slice a41 x35.length c42) x35 :: bl q28 #[(.int .i64 x13.Kind), (.int .i64 x13.Path), (.int .i64 x13.Number), (.int .i64 x13.Of), (.int .i64 x13.From), (.slice q32 x13.Data.length q33), (.bool x13.Fin), (.int .i64 x13.Seen), (.int .i64 x13.Limit)] 41 :: G) rfl ?_
      have hI := hI.trans hJ142
      replace q31 := q31.up hJ142; replace q34 := q34.up hJ142
      refine WX.then_ ?_
      refine WC.ret ?_
      cases h
      refine WX.del 0 ?_
      refine WX.del 0 ?_
      refine WX.del 0 ?_
      refine WX.del 0 ?_
      refine WX.del 0 ?_
      refine WX.del 0 ?_
      exact ret1 Try.results7 rfl hI ⟨rfl, rfl⟩
    refine WC.drawn mo (nthL [[], [], [0, 1], [0, 1, 2], [0, 1, 2, 3], [0, 1, 2, 3], [0, 1, 2, 3, 4, 5], [0, 1, 2, 3, 4, 5, 6], [0, 1, 2, 3, 4, 5, 6, 7], [0, 1, 2, 3, 4, 5, 6, 7, 8], [0, 1, 2, 3, 4, 5, 6, 7, 8, 9], [0, 1, 2, 3, 4, 5, 6, 7, 8], [0, 1, 2, 3, 4, 5, 6, 7, 8, 9, 10, 11], [0, 1, 2, 3, 4, 5, 6, 7, 8, 9, 10, 11, 12], [0, 1, 2, 3, 4, 5, 6, 7, 8, 9, 10, 11, 12, 13], [0, 1, 2, 3, 4, 5, 6, 7, 8, 9, 10, 11, 12, 13, 14], [0, 1, 2, 3, 4, 5, 6, 7, 8, 9, 10, 11, 12, 13, 14], [0, 1, 2, 3, 4, 5, 6, 7, 8, 9, 10, 11, 12, 13, 14, 15, 16], [0, 1, 2, 3, 4, 5, 6, 7, 8, 9, 10, 11, 12, 13, 14, 15, 16, 17], [0, 1, 2, 3, 4, 5, 6, 7, 8, 9, 10, 11, 12, 13, 14, 15, 16, 17, 18], [0, 1, 2, 3, 4, 5, 6, 7, 8, 9, 10, 11, 12, 13, 14, 15, 16, 17, 18, 19], [0, 1, 2, 3, 4, 5, 6, 7, 8, 9, 10, 11, 12, 13, 14, 15, 16, 17, 18, 19], [0, 1, 2, 3, 4, 5, 6, 7, 8, 9, 10, 11, 12, 13, 14, 15, 16, 17, 18, 19, 20, 21], [0, 1, 2, 3, 4, 5, 6, 7, 8, 9, 10, 11, 12, 13, 14, 15, 16, 17, 18, 19, 20, 21, 22], [0, 1, 2, 3, 4, 5, 6, 7, 8, 9, 10, 11, 12, 13, 14, 15, 16, 17, 18, 19, 20, 21, 22, 23], [0, 1, 2, 3, 4, 5, 6, 7, 8, 9, 10, 11, 12, 13, 14, 15, 16, 17, 18, 19, 20, 21, 22, 23, 24], [0, 1, 2, 3, 4, 5, 6, 7, 8, 9, 10, 11, 12, 13, 14, 15, 16, 17, 18, 19, 20, 21, 22, 23, 24], [0, 1, 2, 3, 4, 5, 6, 7, 8, 9, 10, 11, 12, 13, 14, 15, 16, 17, 18, 19, 20, 21, 22, 23, 24, 25, 26], [0, 1, 2, 3, 4, 5, 6, 7, 8, 9, 10, 11, 12, 13, 14, 15, 16, 17, 18, 19, 20, 21, 22, 23, 24], [0, 1, 2, 3, 4, 5, 6, 7, 8, 9, 10, 11, 12, 13, 14, 15, 16, 17, 18, 19, 20, 21, 22, 23, 24], [0, 1, 2, 3, 4, 5, 6, 7, 8, 9, 10, 11, 12, 13, 14, 15, 16, 17, 18, 19, 20, 21, 22, 23, 24, 25, 26, 27, 28, 29], [0, 1, 2, 3, 4, 5, 6, 7, 8, 9, 10, 11, 12, 13, 14, 15, 16, 17, 18, 19, 20, 21, 22, 23, 24, 25, 26, 27, 28, 29, 30], [0, 1, 2, 3, 4, 5, 6, 7, 8, 9, 10, 11, 12, 13, 14, 15, 16, 17, 18, 19, 20, 21, 22, 23, 24, 25, 26, 27, 28, 29, 30, 31], [0, 1, 2, 3, 4, 5, 6, 7, 8, 9, 10, 11, 12, 13, 14, 15, 16, 17, 18, 19, 20, 21, 22, 23, 24, 25, 26, 27, 28, 29, 30, 31, 32], [0, 1, 2, 3, 4, 5, 6, 7, 8, 9, 10, 11, 12, 13, 14, 15, 16, 17, 18, 19, 20, 21, 22, 23, 24, 25, 26, 27, 28, 29, 30, 31, 32, 33], [0, 1, 2, 3, 4, 5, 6, 7, 8, 9, 10, 11, 12, 13, 14, 15, 16, 17, 18, 19, 20, 21, 22, 23, 24, 25, 26, 27, 28, 29, 30, 31, 32, 33], [0, 1, 2, 3, 4, 5, 6, 7, 8, 9, 10, 11, 12, 13, 14, 15, 16, 17, 18, 19, 20, 21, 22, 23, 24, 25, 26, 27, 28, 29, 30, 31, 32, 33, 34, 35], [0, 1, 2, 3, 4, 5, 6, 7, 8, 9, 10, 11, 12, 13, 14, 15, 16, 17, 18, 19, 20, 21, 22, 23, 24, 25, 26, 27, 28, 29, 30, 31, 32, 33, 34, 35, 36], [0, 1, 2, 3, 4, 5, 6, 7, 8, 9, 10, 11, 12, 13, 14, 15, 16, 17, 18, 19, 20, 21, 22, 23, 24, 25, 26, 27, 28, 29, 30, 31, 32, 33, 34, 35, 36, 37], [0, 1, 2, 3, 4, 5, 6, 7, 8, 9, 10, 11, 12, 13, 14, 15, 16, 17, 18, 19, 20, 21, 22, 23, 24, 25, 26, 27, 28, 29, 30, 31, 32, 33, 34, 35, 36, 37, 38], [0, 1, 2, 3, 4, 5, 6, 7, 8, 9, 10, 11, 12, 13, 14, 15, 16, 17, 18, 19, 20, 21, 22, 23, 24, 25, 26, 27, 28, 29, 30, 31, 32, 33, 34, 35, 36, 37, 38, 39], [0, 1, 2, 3, 4, 5, 6, 7, 8, 9, 10, 11, 12, 13, 14, 15, 16, 17, 18, 19, 20, 21, 22, 23, 24, 25, 26, 27, 28, 29, 30, 31, 32, 33, 34, 35, 36, 37, 38, 39, 40]]) (nthL [[], [], [0, 1], [2], [3], [3], [3, 4, 5], [3, 6], [7], [8], [8], [8], [8], [8, 12], [13], [14], [14], [14], [14, 17], [18], [19], [19], [19], [19, 22], [23], [24], [24], [24], [24], [24], [24], [24], [24, 31], [32], [33], [33], [33], [33, 36], [37], [38], [38, 39], [40]]) (nthK [.val (.int .i64 x36), .val (.int .i64 x72), .val (.bool (decide (x36 = x72))), .val (.bool true), .val (.int .i64 x54), .val (.int .i64 x72), .val (.bool (decide (x54 = x72))), .val (.bool (decide (x54 = x72))), .val (.bool false), .val undef, .val undef, .val undef, .val undef, .val (.bool false), .val (.bool false), .val undef, .val undef, .val undef, .val (.bool false), .val (.bool false), .val undef, .val undef, .val undef, .val (.bool false), .val (.bool false), .val undef, .val undef, .val undef, .val undef, .val undef, .val undef, .val undef, .val (.bool false), .val (.bool false), .val undef, .val undef, .val undef, .val (.bool false), .val (.bool false), .val undef, .val (.bool false), .val (.bool false)]) [] (by kernel_rfl) (by kernel_rfl) (by kernel_rfl) (H := OV 5 (.slice a68 x62.length c69) x62 :: OV 5 (.slice a59 x53.length c60) x53 :: OV 5 (.slice a50 x44.length c51) x44 :: OV 5 (.slice a41 x35.length c42) x35 :: bl q27 #[(.int .i64 x5.Kind), (.int .i64 x5.Path), (.int .i64 x5.Number), (.int .i64 x5.Of), (.int .i64 x5.From), (.slice q29 x5.Data.length q30), (.bool x5.Fin), (.int .i64 x5.Seen), (.int .i64 x5.Limit)] 41 :: bl q28 #[(.int .i64 x13.Kind), (.int .i64 x13.Path), (.int .i64 x13.Number), (.int .i64 x13.Of), (.int .i64 x13.From), (.slice q32 x13.Data.length q33), (.bool x13.Fin), (.int .i64 x13.Seen), (.int .i64 x13.Limit)] 41 :: G) rfl ⟨?_, ?_, ?_, ?_, ?_, ?_, ?_, ?_, ?_, ?_, ?_, ?_, ?_, ?_, ?_, ?_, ?_, ?_, ?_, ?_, ?_, ?_, ?_, ?_, ?_, ?_, ?_, ?_, ?_, ?_, ?_, ?_, ?_, ?_, ?_, ?_, ?_, ?_, ?_, ?_, ?_, ?_, trivial⟩ ?_
    · intro Q ρ I1 H hI1 hk hpost
      have hc := Mem.le.refl I1
      refine mv rfl rfl ?_
      refine WL.nil ?_
      exact hpost _ _ hc rfl _ (fun _ hd => by obtain rfl := Option.some.inj hd; exact ⟨rfl, trivial⟩)
    · intro Q ρ I1 H hI1 hk hpost
      have hc := Mem.le.refl I1
      refine mv rfl rfl ?_
      refine WL.nil ?_
      exact hpost _ _ hc rfl _ (fun _ hd => by obtain rfl := Option.some.inj hd; exact ⟨rfl, trivial⟩)
    · intro Q ρ I1 H hI1 hk hpost
      obtain ⟨_, _, -⟩ := hk
      have hc := Mem.le.refl I1
      refine eq rfl rfl rfl ?_
      refine WL.nil ?_
      exact hpost _ _ hc rfl _ (fun _ hd => by obtain rfl := Option.some.inj hd; exact ⟨rfl, trivial⟩)
    · intro Q ρ I1 H hI1 hk hpost
      obtain ⟨_, -⟩ := hk
      have hc := Mem.le.refl I1
      refine mv rfl rfl ?_
      refine WL.nil ?_
      exact hpost _ _ hc (bT k77) _ (fun _ hd => by obtain rfl := Option.some.inj hd; exact ⟨rfl, trivial⟩)
    · intro Q ρ I1 H hI1 hk hpost
      obtain ⟨_, -⟩ := hk
      have hc := Mem.le.refl I1
      refine WL.on rfl rfl ?_
      refine mv rfl rfl ?_
      refine WL.nil ?_
      exact hpost _ _ hc rfl _ (fun _ hd => by obtain rfl := Option.some.inj hd; exact ⟨rfl, trivial⟩)
    · intro Q ρ I1 H hI1 hk hpost
      obtain ⟨_, -⟩ := hk
      have hc := Mem.le.refl I1
      refine WL.on rfl rfl ?_
      refine mv rfl rfl ?_
      refine WL.nil ?_
      exact hpost _ _ hc rfl _ (fun _ hd => by obtain rfl := Option.some.inj hd; exact ⟨rfl, trivial⟩)
    · intro Q ρ I1 H hI1 hk hpost
      obtain ⟨_, _, _, -⟩ := hk
      have hc := Mem.le.refl I1
      refine WL.on rfl rfl ?_
      refine eq rfl rfl rfl ?_
      refine WL.nil ?_
      exact hpost _ _ hc rfl _ (fun _ hd => by obtain rfl := Option.some.inj hd; exact ⟨rfl, trivial⟩)
    · intro Q ρ I1 H hI1 hk hpost
      obtain ⟨_, _, -⟩ := hk
      have hc := Mem.le.refl I1
      refine pkT rfl rfl rfl ?_
      refine WL.nil ?_
      exact hpost _ _ hc rfl _ (fun _ hd => by obtain rfl := Option.some.inj hd; exact ⟨rfl, trivial⟩)
    · intro Q ρ I1 H hI1 hk hpost
      obtain ⟨_, -⟩ := hk
      have hc := Mem.le.refl I1
      refine mv rfl rfl ?_
      refine WL.nil ?_
      exact hpost _ _ hc (bF k78) _ (fun _ hd => by obtain rfl := Option.some.inj hd; exact ⟨rfl, trivial⟩)
    · intro Q ρ I1 H hI1 hk hpost
      obtain ⟨_, -⟩ := hk
      have hc := Mem.le.refl I1
      refine WL.no rfl rfl rfl rfl ?_
      refine WL.nil ?_
      exact hpost _ _ hc rfl _ (fun _ hd => by obtain rfl := Option.some.inj hd; exact ⟨rfl, trivial⟩)
    · intro Q ρ I1 H hI1 hk hpost
      obtain ⟨_, -⟩ := hk
      have hc := Mem.le.refl I1
      refine WL.no rfl rfl rfl rfl ?_
      refine WL.nil ?_
      exact hpost _ _ hc rfl _ (fun _ hd => by obtain rfl := Option.some.inj hd; exact ⟨rfl, trivial⟩)
    · intro Q ρ I1 H hI1 hk hpost
      obtain ⟨_, -⟩ := hk
      have hc := Mem.le.refl I1
      refine WL.no rfl rfl rfl rfl ?_
      refine WL.nil ?_
      exact hpost _ _ hc rfl _ (fun _ hd => by obtain rfl := Option.some.inj hd; exact ⟨rfl, trivial⟩)
    · intro Q ρ I1 H hI1 hk hpost
      obtain ⟨_, -⟩ := hk
      have hc := Mem.le.refl I1
      refine WL.no rfl rfl rfl rfl ?_
      refine WL.nil ?_
      exact hpost _ _ hc rfl _ (fun _ hd => by obtain rfl := Option.some.inj hd; exact ⟨rfl, trivial⟩)
    · intro Q ρ I1 H hI1 hk hpost
      obtain ⟨_, _, -⟩ := hk
      have hc := Mem.le.refl I1
      refine pkF rfl rfl rfl ?_
      refine WL.nil ?_
      exact hpost _ _ hc rfl _ (fun _ hd => by obtain rfl := Option.some.inj hd; exact ⟨rfl, trivial⟩)
    · intro Q ρ I1 H hI1 hk hpost
      obtain ⟨_, -⟩ := hk
      have hc := Mem.le.refl I1
      refine mv rfl rfl ?_
      refine WL.nil ?_
      exact hpost _ _ hc rfl _ (fun _ hd => by obtain rfl := Option.some.inj hd; exact ⟨rfl, trivial⟩)
    · intro Q ρ I1 H hI1 hk hpost
      obtain ⟨_, -⟩ := hk
      have hc := Mem.le.refl I1
      refine WL.no rfl rfl rfl rfl ?_
      refine WL.nil ?_
      exact hpost _ _ hc rfl _ (fun _ hd => by obtain rfl := Option.some.inj hd; exact ⟨rfl, trivial⟩)
    · intro Q ρ I1 H hI1 hk hpost
      obtain ⟨_, -⟩ := hk
      have hc := Mem.le.refl I1
      refine WL.no rfl rfl rfl rfl ?_
      refine WL.nil ?_
      exact hpost _ _ hc rfl _ (fun _ hd => by obtain rfl := Option.some.inj hd; exact ⟨rfl, trivial⟩)
    · intro Q ρ I1 H hI1 hk hpost
      obtain ⟨_, -⟩ := hk
      have hc := Mem.le.refl I1
      refine WL.no rfl rfl rfl rfl ?_
      refine WL.nil ?_
      exact hpost _ _ hc rfl _ (fun _ hd => by obtain rfl := Option.some.inj hd; exact ⟨rfl, trivial⟩)
    · intro Q ρ I1 H hI1 hk hpost
      obtain ⟨_, _, -⟩ := hk
      have hc := Mem.le.refl I1
      refine pkF rfl rfl rfl ?_
      refine WL.nil ?_
      exact hpost _ _ hc rfl _ (fun _ hd => by obtain rfl := Option.some.inj hd; exact ⟨rfl, trivial⟩)
    · intro Q ρ I1 H hI1 hk hpost
      obtain ⟨_, -⟩ := hk
      have hc := Mem.le.refl I1
      refine mv rfl rfl ?_
      refine WL.nil ?_
      exact hpost _ _ hc rfl _ (fun _ hd => by obtain rfl := Option.some.inj hd; exact ⟨rfl, trivial⟩)
    · intro Q ρ I1 H hI1 hk hpost
      obtain ⟨_, -⟩ := hk
      have hc := Mem.le.refl I1
      refine WL.no rfl rfl rfl rfl ?_
      refine WL.nil ?_
      exact hpost _ _ hc rfl _ (fun _ hd => by obtain rfl := Option.some.inj hd; exact ⟨rfl, trivial⟩)
    · intro Q ρ I1 H hI1 hk hpost
      obtain ⟨_, -⟩ := hk
      have hc := Mem.le.refl I1
      refine WL.no rfl rfl rfl rfl ?_
      refine WL.nil ?_
      exact hpost _ _ hc rfl _ (fun _ hd => by obtain rfl := Option.some.inj hd; exact ⟨rfl, trivial⟩)
    · intro Q ρ I1 H hI1 hk hpost
      obtain ⟨_, -⟩ := hk
      have hc := Mem.le.refl I1
      refine WL.no rfl rfl rfl rfl ?_
      refine WL.nil ?_
      exact hpost _ _ hc rfl _ (fun _ hd => by obtain rfl := Option.some.inj hd; exact ⟨rfl, trivial⟩)
    · intro Q ρ I1 H hI1 hk hpost
      obtain ⟨_, _, -⟩ := hk
      have hc := Mem.le.refl I1
      refine pkF rfl rfl rfl ?_
      refine WL.nil ?_
      exact hpost _ _ hc rfl _ (fun _ hd => by obtain rfl := Option.some.inj hd; exact ⟨rfl, trivial⟩)
    · intro Q ρ I1 H hI1 hk hpost
      obtain ⟨_, -⟩ := hk
      have hc := Mem.le.refl I1
      refine mv rfl rfl ?_
      refine WL.nil ?_
      exact hpost _ _ hc rfl _ (fun _ hd => by obtain rfl := Option.some.inj hd; exact ⟨rfl, trivial⟩)
    · intro Q ρ I1 H hI1 hk hpost
      obtain ⟨_, -⟩ := hk
      have hc := Mem.le.refl I1
      refine WL.no rfl rfl rfl rfl ?_
      refine WL.nil ?_
      exact hpost _ _ hc rfl _ (fun _ hd => by obtain rfl := Option.some.inj hd; exact ⟨rfl, trivial⟩)
    · intro Q ρ I1 H hI1 hk hpost
      obtain ⟨_, -⟩ := hk
      have hc := Mem.le.refl I1
      refine WL.no rfl rfl rfl rfl ?_
      refine WL.nil ?_
      exact hpost _ _ hc rfl _ (fun _ hd => by obtain rfl := Option.some.inj hd; exact ⟨rfl, trivial⟩)
    · intro Q ρ I1 H hI1 hk hpost
      obtain ⟨_, -⟩ := hk
      have hc := Mem.le.refl I1
      refine WL.no rfl rfl rfl rfl ?_
      refine WL.nil ?_
      exact hpost _ _ hc rfl _ (fun _ hd => by obtain rfl := Option.some.inj hd; exact ⟨rfl, trivial⟩)
    · intro Q ρ I1 H hI1 hk hpost
      obtain ⟨_, -⟩ := hk
      have hc := Mem.le.refl I1
      refine WL.no rfl rfl rfl rfl ?_
      refine WL.nil ?_
      exact hpost _ _ hc rfl _ (fun _ hd => by obtain rfl := Option.some.inj hd; exact ⟨rfl, trivial⟩)
    · intro Q ρ I1 H hI1 hk hpost
      obtain ⟨_, -⟩ := hk
      have hc := Mem.le.refl I1
      refine WL.no rfl rfl rfl rfl ?_
      refine WL.nil ?_
      exact hpost _ _ hc rfl _ (fun _ hd => by obtain rfl := Option.some.inj hd; exact ⟨rfl, trivial⟩)
    · intro Q ρ I1 H hI1 hk hpost
      obtain ⟨_, -⟩ := hk
      have hc := Mem.le.refl I1
      refine WL.no rfl rfl rfl rfl ?_
      refine WL.nil ?_
      exact hpost _ _ hc rfl _ (fun _ hd => by obtain rfl := Option.some.inj hd; exact ⟨rfl, trivial⟩)
    · intro Q ρ I1 H hI1 hk hpost
      obtain ⟨_, -⟩ := hk
      have hc := Mem.le.refl I1
      refine WL.no rfl rfl rfl rfl ?_
      refine WL.nil ?_
      exact hpost _ _ hc rfl _ (fun _ hd => by obtain rfl := Option.some.inj hd; exact ⟨rfl, trivial⟩)
    · intro Q ρ I1 H hI1 hk hpost
      obtain ⟨_, _, -⟩ := hk
      have hc := Mem.le.refl I1
      refine pkF rfl rfl rfl ?_
      refine WL.nil ?_
      exact hpost _ _ hc rfl _ (fun _ hd => by obtain rfl := Option.some.inj hd; exact ⟨rfl, trivial⟩)
    · intro Q ρ I1 H hI1 hk hpost
      obtain ⟨_, -⟩ := hk
      have hc := Mem.le.refl I1
      refine mv rfl rfl ?_
      refine WL.nil ?_
      exact hpost _ _ hc rfl _ (fun _ hd => by obtain rfl := Option.some.inj hd; exact ⟨rfl, trivial⟩)
    · intro Q ρ I1 H hI1 hk hpost
      obtain ⟨_, -⟩ := hk
      have hc := Mem.le.refl I1
      refine WL.no rfl rfl rfl rfl ?_
      refine WL.nil ?_
      exact hpost _ _ hc rfl _ (fun _ hd => by obtain rfl := Option.some.inj hd; exact ⟨rfl, trivial⟩)
    · intro Q ρ I1 H hI1 hk hpost
      obtain ⟨_, -⟩ := hk
      have hc := Mem.le.refl I1
      refine WL.no rfl rfl rfl rfl ?_
      refine WL.nil ?_
      exact hpost _ _ hc rfl _ (fun _ hd => by obtain rfl := Option.some.inj hd; exact ⟨rfl, trivial⟩)
    · intro Q ρ I1 H hI1 hk hpost
      obtain ⟨_, -⟩ := hk
      have hc := Mem.le.refl I1
      refine WL.no rfl rfl rfl rfl ?_
      refine WL.nil ?_
      exact hpost _ _ hc rfl _ (fun _ hd => by obtain rfl := Option.some.inj hd; exact ⟨rfl, trivial⟩)
    · intro Q ρ I1 H hI1 hk hpost
      obtain ⟨_, _, -⟩ := hk
      have hc := Mem.le.refl I1
      refine pkF rfl rfl rfl ?_
      refine WL.nil ?_
      exact hpost _ _ hc rfl _ (fun _ hd => by obtain rfl := Option.some.inj hd; exact ⟨rfl, trivial⟩)
    · intro Q ρ I1 H hI1 hk hpost
      obtain ⟨_, -⟩ := hk
      have hc := Mem.le.refl I1
      refine mv rfl rfl ?_
      refine WL.nil ?_
      exact hpost _ _ hc rfl _ (fun _ hd => by obtain rfl := Option.some.inj hd; exact ⟨rfl, trivial⟩)
    · intro Q ρ I1 H hI1 hk hpost
      obtain ⟨_, -⟩ := hk
      have hc := Mem.le.refl I1
      refine WL.no rfl rfl rfl rfl ?_
      refine WL.nil ?_
      exact hpost _ _ hc rfl _ (fun _ hd => by obtain rfl := Option.some.inj hd; exact ⟨rfl, trivial⟩)
    · intro Q ρ I1 H hI1 hk hpost
      obtain ⟨_, _, -⟩ := hk
      have hc := Mem.le.refl I1
      refine pkF rfl rfl rfl ?_
      refine WL.nil ?_
      exact hpost _ _ hc rfl _ (fun _ hd => by obtain rfl := Option.some.inj hd; exact ⟨rfl, trivial⟩)
    · intro Q ρ I1 H hI1 hk hpost
      obtain ⟨_, -⟩ := hk
      have hc := Mem.le.refl I1
      refine asg rfl rfl ?_
      refine WL.nil ?_
      exact hpost _ _ hc rfl _ (fun _ hd => by obtain rfl := Option.some.inj hd; exact ⟨rfl, trivial⟩)
    rintro ρ J143 hJ144 -
    refine WX.sub (r := [(8, (.bool false))]) ?_ ⟨rfl, trivial⟩
    refine WX.is (H := OV 5 (.slice a68 x62.length c69) x62 :: OV 5 (.slice a59 x53.length c60) x53 :: OV 5 (.slice a50 x44.length c51) x44 :: OV 5 (.slice a41 x35.length c42) x35 :: bl q27 #[(.int .i64 x5.Kind), (.int .i64 x5.Path), (.int .i64 x5.Number), (.int .i64 x5.Of), (.int .i64 x5.From), (.slice q29 x5.Data.length q30), (.bool x5.Fin), (.int .i64 x5.Seen), (.int .i64 x5.Limit)] 41 :: bl q28 #[(.int .i64 x13.Kind), (.int .i64 x13.Path), (.int .i64 x13.Number), (.int .i64 x13.Of), (.int .i64 x13.From), (.slice q32 x13.Data.length q33), (.bool x13.Fin), (.int .i64 x13.Seen), (.int .i64 x13.Limit)] 41 :: G) rfl ?_
    have hI := hI.trans hJ144
    replace q31 := q31.up hJ144; replace q34 := q34.up hJ144
    refine WX.then_ ?_
    refine WC.ret ?_
    cases h
    refine WX.del 0 ?_
    refine WX.del 0 ?_
    refine WX.del 0 ?_
    refine WX.del 0 ?_
    refine WX.del 0 ?_
    refine WX.del 0 ?_
    exact ret1 Try.results7 rfl hI ⟨rfl, rfl⟩
  refine WC.drawn mo (nthL [[], [], [0, 1], [0, 1, 2], [0, 1, 2, 3], [0, 1, 2, 3], [0, 1, 2, 3, 4, 5], [0, 1, 2, 3, 4, 5, 6], [0, 1, 2, 3, 4, 5, 6, 7], [0, 1, 2, 3, 4, 5, 6, 7, 8], [0, 1, 2, 3, 4, 5, 6, 7, 8, 9], [0, 1, 2, 3, 4, 5, 6, 7, 8], [0, 1, 2, 3, 4, 5, 6, 7, 8, 9, 10, 11], [0, 1, 2, 3, 4, 5, 6, 7, 8, 9, 10, 11, 12], [0, 1, 2, 3, 4, 5, 6, 7, 8, 9, 10, 11, 12, 13], [0, 1, 2, 3, 4, 5, 6, 7, 8, 9, 10, 11, 12, 13, 14], [0, 1, 2, 3, 4, 5, 6, 7, 8, 9, 10, 11, 12, 13, 14], [0, 1, 2, 3, 4, 5, 6, 7, 8, 9, 10, 11, 12, 13, 14, 15, 16], [0, 1, 2, 3, 4, 5, 6, 7, 8, 9, 10, 11, 12, 13, 14, 15, 16, 17], [0, 1, 2, 3, 4, 5, 6, 7, 8, 9, 10, 11, 12, 13, 14, 15, 16, 17, 18], [0, 1, 2, 3, 4, 5, 6, 7, 8, 9, 10, 11, 12, 13, 14, 15, 16, 17, 18, 19], [0, 1, 2, 3, 4, 5, 6, 7, 8, 9, 10, 11, 12, 13, 14, 15, 16, 17, 18, 19], [0, 1, 2, 3, 4, 5, 6, 7, 8, 9, 10, 11, 12, 13, 14, 15, 16, 17, 18, 19, 20, 21], [0, 1, 2, 3, 4, 5, 6, 7, 8, 9, 10, 11, 12, 13, 14, 15, 16, 17, 18, 19, 20, 21, 22], [0, 1, 2, 3, 4, 5, 6, 7, 8, 9, 10, 11, 12, 13, 14, 15, 16, 17, 18, 19, 20, 21, 22, 23], [0, 1, 2, 3, 4, 5, 6, 7, 8, 9, 10, 11, 12, 13, 14, 15, 16, 17, 18, 19, 20, 21, 22, 23, 24], [0, 1, 2, 3, 4, 5, 6, 7, 8, 9, 10, 11, 12, 13, 14, 15, 16, 17, 18, 19, 20, 21, 22, 23, 24], [0, 1, 2, 3, 4, 5, 6, 7, 8, 9, 10, 11, 12, 13, 14, 15, 16, 17, 18, 19, 20, 21, 22, 23, 24, 25, 26], [0, 1, 2, 3, 4, 5, 6, 7, 8, 9, 10, 11, 12, 13, 14, 15, 16, 17, 18, 19, 20, 21, 22, 23, 24], [0, 1, 2, 3, 4, 5, 6, 7, 8, 9, 10, 11, 12, 13, 14, 15, 16, 17, 18, 19, 20, 21, 22, 23, 24], [0, 1, 2, 3, 4, 5, 6, 7, 8, 9, 10, 11, 12, 13, 14, 15, 16, 17, 18, 19, 20, 21, 22, 23, 24, 25, 26, 27, 28, 29], [0, 1, 2, 3, 4, 5, 6, 7, 8, 9, 10, 11, 12, 13, 14, 15, 16, 17, 18, 19, 20, 21, 22, 23, 24, 25, 26, 27, 28, 29, 30], [0, 1, 2, 3, 4, 5, 6, 7, 8, 9, 10, 11, 12, 13, 14, 15, 16, 17, 18, 19, 20, 21, 22, 23, 24, 25, 26, 27, 28, 29, 30, 31], [0, 1, 2, 3, 4, 5, 6, 7, 8, 9, 10, 11, 12, 13, 14, 15, 16, 17, 18, 19, 20, 21, 22, 23, 24, 25, 26, 27, 28, 29, 30, 31, 32], [0, 1, 2, 3, 4, 5, 6, 7, 8, 9, 10, 11, 12, 13, 14, 15, 16, 17, 18, 19, 20, 21, 22, 23, 24, 25, 26, 27, 28, 29, 30, 31, 32, 33], [0, 1, 2, 3, 4, 5, 6, 7, 8, 9, 10, 11, 12, 13, 14, 15, 16, 17, 18, 19, 20, 21, 22, 23, 24, 25, 26, 27, 28, 29, 30, 31, 32, 33], [0, 1, 2, 3, 4, 5, 6, 7, 8, 9, 10, 11, 12, 13, 14, 15, 16, 17, 18, 19, 20, 21, 22, 23, 24, 25, 26, 27, 28, 29, 30, 31, 32, 33, 34, 35], [0, 1, 2, 3, 4, 5, 6, 7, 8, 9, 10, 11, 12, 13, 14, 15, 16, 17, 18, 19, 20, 21, 22, 23, 24, 25, 26, 27, 28, 29, 30, 31, 32, 33, 34, 35, 36], [0, 1, 2, 3, 4, 5, 6, 7, 8, 9, 10, 11, 12, 13, 14, 15, 16, 17, 18, 19, 20, 21, 22, 23, 24, 25, 26, 27, 28, 29, 30, 31, 32, 33, 34, 35, 36, 37], [0, 1, 2, 3, 4, 5, 6, 7, 8, 9, 10, 11, 12, 13, 14, 15, 16, 17, 18, 19, 20, 21, 22, 23, 24, 25, 26, 27, 28, 29, 30, 31, 32, 33, 34, 35, 36, 37, 38], [0, 1, 2, 3, 4, 5, 6, 7, 8, 9, 10, 11, 12, 13, 14, 15, 16, 17, 18, 19, 20, 21, 22, 23, 24, 25, 26, 27, 28, 29, 30, 31, 32, 33, 34, 35, 36, 37, 38, 39], [0, 1, 2, 3, 4, 5, 6, 7, 8, 9, 10, 11, 12, 13, 14, 15, 16, 17, 18, 19, 20, 21, 22, 23, 24, 25, 26, 27, 28, 29, 30, 31, 32, 33, 34, 35, 36, 37, 38, 39, 40]]) (nthL [[], [], [0, 1], [2], [3], [3], [3], [3, 6], [7], [8], [8], [8], [8], [8, 12], [13], [14], [14], [14], [14, 17], [18], [19], [19], [19], [19, 22], [23], [24], [24], [24], [24], [24], [24], [24], [24, 31], [32], [33], [33], [33], [33, 36], [37], [38], [38, 39], [40]]) (nthK [.val (.int .i64 x36), .val (.int .i64 x72), .val (.bool (decide (x36 = x72))), .val (.bool false), .val undef, .val undef, .val undef, .val (.bool false), .val (.bool false), .val undef, .val undef, .val undef, .val undef, .val (.bool false), .val (.bool false), .val undef, .val undef, .val undef, .val (.bool false), .val (.bool false), .val undef, .val undef, .val undef, .val (.bool false), .val (.bool false), .val undef, .val undef, .val undef, .val undef, .val undef, .val undef, .val undef, .val (.bool false), .val (.bool false), .val undef, .val undef, .val undef, .val (.bool false), .val (.bool false), .val undef, .val (.bool false), .val (.bool false)]) [] (by kernel_rfl) (by kernel_rfl) (by kernel_rfl) (H := OV 5 (.slice a68 x62.length c69) x62 :: OV 5 (.slice a59 x53.length c60) x53 :: OV 5 (.slice a50 x44.length c51) x44 :: OV 5 (.slice a41 x35.length c42) x35 :: bl q27 #[(.int .i64 x5.Kind), (.int .i64 x5.Path), (.int .i64 x5.Number), (.int .i64 x5.Of), (.int .i64 x5.From), (.slice q29 x5.Data.length q30), (.bool x5.Fin), (.int .i64 x5.Seen), (.int .i64 x5.Limit)] 41 :: bl q28 #[(.int .i64 x13.Kind), (.int .i64 x13.Path), (.int .i64 x13.Number), (.int .i64 x13.Of), (.int .i64 x13.From), (.slice q32 x13.Data.length q33), (.bool x13.Fin), (.int .i64 x13.Seen), (.int .i64 x13.Limit)] 41 :: G) rfl ⟨?_, ?_, ?_, ?_, ?_, ?_, ?_, ?_, ?_, ?_, ?_, ?_, ?_, ?_, ?_, ?_, ?_, ?_, ?_, ?_, ?_, ?_, ?_, ?_, ?_, ?_, ?_, ?_, ?_, ?_, ?_, ?_, ?_, ?_, ?_, ?_, ?_, ?_, ?_, ?_, ?_, ?_, trivial⟩ ?_
  · intro Q ρ I1 H hI1 hk hpost
    have hc := Mem.le.refl I1
    refine mv rfl rfl ?_
    refine WL.nil ?_
    exact hpost _ _ hc rfl _ (fun _ hd => by obtain rfl := Option.some.inj hd; exact ⟨rfl, trivial⟩)
  · intro Q ρ I1 H hI1 hk hpost
    have hc := Mem.le.refl I1
    refine mv rfl rfl ?_
    refine WL.nil ?_
    exact hpost _ _ hc rfl _ (fun _ hd => by obtain rfl := Option.some.inj hd; exact ⟨rfl, trivial⟩)
  · intro Q ρ I1 H hI1 hk hpost
    obtain ⟨_, _, -⟩ := hk
    have hc := Mem.le.refl I1
    refine eq rfl rfl rfl ?_
    refine WL.nil ?_
    exact hpost _ _ hc rfl _ (fun _ hd => by obtain rfl := Option.some.inj hd; exact ⟨rfl, trivial⟩)
  · intro Q ρ I1 H hI1 hk hpost
    obtain ⟨_, -⟩ := hk
    have hc := Mem.le.refl I1
    refine mv rfl rfl ?_
    refine WL.nil ?_
    exact hpost _ _ hc (bF k77) _ (fun _ hd => by obtain rfl := Option.some.inj hd; exact ⟨rfl, trivial⟩)
  · intro Q ρ I1 H hI1 hk hpost
    obtain ⟨_, -⟩ := hk
    have hc := Mem.le.refl I1
    refine WL.no rfl rfl rfl rfl ?_
    refine WL.nil ?_
    exact hpost _ _ hc rfl _ (fun _ hd => by obtain rfl := Option.some.inj hd; exact ⟨rfl, trivial⟩)
  · intro Q ρ I1 H hI1 hk hpost
    obtain ⟨_, -⟩ := hk
    have hc := Mem.le.refl I1
    refine WL.no rfl rfl rfl rfl ?_
    refine WL.nil ?_
    exact hpost _ _ hc rfl _ (fun _ hd => by obtain rfl := Option.some.inj hd; exact ⟨rfl, trivial⟩)
  · intro Q ρ I1 H hI1 hk hpost
    obtain ⟨_, -⟩ := hk
    have hc := Mem.le.refl I1
    refine WL.no rfl rfl rfl rfl ?_
    refine WL.nil ?_
    exact hpost _ _ hc rfl _ (fun _ hd => by obtain rfl := Option.some.inj hd; exact ⟨rfl, trivial⟩)
  · intro Q ρ I1 H hI1 hk hpost
    obtain ⟨_, _, -⟩ := hk
    have hc := Mem.le.refl I1
    refine pkF rfl rfl rfl ?_
    refine WL.nil ?_
    exact hpost _ _ hc rfl _ (fun _ hd => by obtain rfl := Option.some.inj hd; exact ⟨rfl, trivial⟩)
  · intro Q ρ I1 H hI1 hk hpost
    obtain ⟨_, -⟩ := hk
    have hc := Mem.le.refl I1
    refine mv rfl rfl ?_
    refine WL.nil ?_
    exact hpost _ _ hc rfl _ (fun _ hd => by obtain rfl := Option.some.inj hd; exact ⟨rfl, trivial⟩)
  · intro Q ρ I1 H hI1 hk hpost
    obtain ⟨_, -⟩ := hk
    have hc := Mem.le.refl I1
    refine WL.no rfl rfl rfl rfl ?_
    refine WL.nil ?_
    exact hpost _ _ hc rfl _ (fun _ hd => by obtain rfl := Option.some.inj hd; exact ⟨rfl, trivial⟩)
  · intro Q ρ I1 H hI1 hk hpost
    obtain ⟨_, -⟩ := hk
    have hc := Mem.le.refl I1
    refine WL.no rfl rfl rfl rfl ?_
    refine WL.nil ?_
    exact hpost _ _ hc rfl _ (fun _ hd => by obtain rfl := Option.some.inj hd; exact ⟨rfl, trivial⟩)
  · intro Q ρ I1 H hI1 hk hpost
    obtain ⟨_, -⟩ := hk
    have hc := Mem.le.refl I1
    refine WL.no rfl rfl rfl rfl ?_
    refine WL.nil ?_
    exact hpost _ _ hc rfl _ (fun _ hd => by obtain rfl := Option.some.inj hd; exact ⟨rfl, trivial⟩)
  · intro Q ρ I1 H hI1 hk hpost
    obtain ⟨_, -⟩ := hk
    have hc := Mem.le.refl I1
    refine WL.no rfl rfl rfl rfl ?_
    refine WL.nil ?_
    exact hpost _ _ hc rfl _ (fun _ hd => by obtain rfl := Option.some.inj hd; exact ⟨rfl, trivial⟩)
  · intro Q ρ I1 H hI1 hk hpost
    obtain ⟨_, _, -⟩ := hk
    have hc := Mem.le.refl I1
    refine pkF rfl rfl rfl ?_
    refine WL.nil ?_
    exact hpost _ _ hc rfl _ (fun _ hd => by obtain rfl := Option.some.inj hd; exact ⟨rfl, trivial⟩)
  · intro Q ρ I1 H hI1 hk hpost
    obtain ⟨_, -⟩ := hk
    have hc := Mem.le.refl I1
    refine mv rfl rfl ?_
    refine WL.nil ?_
    exact hpost _ _ hc rfl _ (fun _ hd => by obtain rfl := Option.some.inj hd; exact ⟨rfl, trivial⟩)
  · intro Q ρ I1 H hI1 hk hpost
    obtain ⟨_, -⟩ := hk
    have hc := Mem.le.refl I1
    refine WL.no rfl rfl rfl rfl ?_
    refine WL.nil ?_
    exact hpost _ _ hc rfl _ (fun _ hd => by obtain rfl := Option.some.inj hd; exact ⟨rfl, trivial⟩)
  · intro Q ρ I1 H hI1 hk hpost
    obtain ⟨_, -⟩ := hk
    have hc := Mem.le.refl I1
    refine WL.no rfl rfl rfl rfl ?_
    refine WL.nil ?_
    exact hpost _ _ hc rfl _ (fun _ hd => by obtain rfl := Option.some.inj hd; exact ⟨rfl, trivial⟩)
  · intro Q ρ I1 H hI1 hk hpost
    obtain ⟨_, -⟩ := hk
    have hc := Mem.le.refl I1
    refine WL.no rfl rfl rfl rfl ?_
    refine WL.nil ?_
    exact hpost _ _ hc rfl _ (fun _ hd => by obtain rfl := Option.some.inj hd; exact ⟨rfl, trivial⟩)
  · intro Q ρ I1 H hI1 hk hpost
    obtain ⟨_, _, -⟩ := hk
    have hc := Mem.le.refl I1
    refine pkF rfl rfl rfl ?_
    refine WL.nil ?_
    exact hpost _ _ hc rfl _ (fun _ hd => by obtain rfl := Option.some.inj hd; exact ⟨rfl, trivial⟩)
  · intro Q ρ I1 H hI1 hk hpost
    obtain ⟨_, -⟩ := hk
    have hc := Mem.le.refl I1
    refine mv rfl rfl ?_
    refine WL.nil ?_
    exact hpost _ _ hc rfl _ (fun _ hd => by obtain rfl := Option.some.inj hd; exact ⟨rfl, trivial⟩)
  · intro Q ρ I1 H hI1 hk hpost
    obtain ⟨_, -⟩ := hk
    have hc := Mem.le.refl I1
    refine WL.no rfl rfl rfl rfl ?_
    refine WL.nil ?_
    exact hpost _ _ hc rfl _ (fun _ hd => by obtain rfl := Option.some.inj hd; exact ⟨rfl, trivial⟩)
  · intro Q ρ I1 H hI1 hk hpost
    obtain ⟨_, -⟩ := hk
    have hc := Mem.le.refl I1
    refine WL.no rfl rfl rfl rfl ?_
    refine WL.nil ?_
    exact hpost _ _ hc rfl _ (fun _ hd => by obtain rfl := Option.some.inj hd; exact ⟨rfl, trivial⟩)
  · intro Q ρ I1 H hI1 hk hpost
    obtain ⟨_, -⟩ := hk
    have hc := Mem.le.refl I1
    refine WL.no rfl rfl rfl rfl ?_
    refine WL.nil ?_
    exact hpost _ _ hc rfl _ (fun _ hd => by obtain rfl := Option.some.inj hd; exact ⟨rfl, trivial⟩)
  · intro Q ρ I1 H hI1 hk hpost
    obtain ⟨_, _, -⟩ := hk
    have hc := Mem.le.refl I1
    refine pkF rfl rfl rfl ?_
    refine WL.nil ?_
    exact hpost _ _ hc rfl _ (fun _ hd => by obtain rfl := Option.some.inj hd; exact ⟨rfl, trivial⟩)
  · intro Q ρ I1 H hI1 hk hpost
    obtain ⟨_, -⟩ := hk
    have hc := Mem.le.refl I1
    refine mv rfl rfl ?_
    refine WL.nil ?_
    exact hpost _ _ hc rfl _ (fun _ hd => by obtain rfl := Option.some.inj hd; exact ⟨rfl, trivial⟩)
  · intro Q ρ I1 H hI1 hk hpost
    obtain ⟨_, -⟩ := hk
    have hc := Mem.le.refl I1
    refine WL.no rfl rfl rfl rfl ?_
    refine WL.nil ?_
    exact hpost _ _ hc rfl _ (fun _ hd => by obtain rfl := Option.some.inj hd; exact ⟨rfl, trivial⟩)
  · intro Q ρ I1 H hI1 hk hpost
    obtain ⟨_, -⟩ := hk
    have hc := Mem.le.refl I1
    refine WL.no rfl rfl rfl rfl ?_
    refine WL.nil ?_
    exact hpost _ _ hc rfl _ (fun _ hd => by obtain rfl := Option.some.inj hd; exact ⟨rfl, trivial⟩)
  · intro Q ρ I1 H hI1 hk hpost
    obtain ⟨_, -⟩ := hk
    have hc := Mem.le.refl I1
    refine WL.no rfl rfl rfl rfl ?_
    refine WL.nil ?_
    exact hpost _ _ hc rfl _ (fun _ hd => by obtain rfl := Option.some.inj hd; exact ⟨rfl, trivial⟩)
  · intro Q ρ I1 H hI1 hk hpost
    obtain ⟨_, -⟩ := hk
    have hc := Mem.le.refl I1
    refine WL.no rfl rfl rfl rfl ?_
    refine WL.nil ?_
    exact hpost _ _ hc rfl _ (fun _ hd => by obtain rfl := Option.some.inj hd; exact ⟨rfl, trivial⟩)
  · intro Q ρ I1 H hI1 hk hpost
    obtain ⟨_, -⟩ := hk
    have hc := Mem.le.refl I1
    refine WL.no rfl rfl rfl rfl ?_
    refine WL.nil ?_
    exact hpost _ _ hc rfl _ (fun _ hd => by obtain rfl := Option.some.inj hd; exact ⟨rfl, trivial⟩)
  · intro Q ρ I1 H hI1 hk hpost
    obtain ⟨_, -⟩ := hk
    have hc := Mem.le.refl I1
    refine WL.no rfl rfl rfl rfl ?_
    refine WL.nil ?_
    exact hpost _ _ hc rfl _ (fun _ hd => by obtain rfl := Option.some.inj hd; exact ⟨rfl, trivial⟩)
  · intro Q ρ I1 H hI1 hk hpost
    obtain ⟨_, -⟩ := hk
    have hc := Mem.le.refl I1
    refine WL.no rfl rfl rfl rfl ?_
    refine WL.nil ?_
    exact hpost _ _ hc rfl _ (fun _ hd => by obtain rfl := Option.some.inj hd; exact ⟨rfl, trivial⟩)
  · intro Q ρ I1 H hI1 hk hpost
    obtain ⟨_, _, -⟩ := hk
    have hc := Mem.le.refl I1
    refine pkF rfl rfl rfl ?_
    refine WL.nil ?_
    exact hpost _ _ hc rfl _ (fun _ hd => by obtain rfl := Option.some.inj hd; exact ⟨rfl, trivial⟩)
  · intro Q ρ I1 H hI1 hk hpost
    obtain ⟨_, -⟩ := hk
    have hc := Mem.le.refl I1
    refine mv rfl rfl ?_
    refine WL.nil ?_
    exact hpost _ _ hc rfl _ (fun _ hd => by obtain rfl := Option.some.inj hd; exact ⟨rfl, trivial⟩)
  · intro Q ρ I1 H hI1 hk hpost
    obtain ⟨_, -⟩ := hk
    have hc := Mem.le.refl I1
    refine WL.no rfl rfl rfl rfl ?_
    refine WL.nil ?_
    exact hpost _ _ hc rfl _ (fun _ hd => by obtain rfl := Option.some.inj hd; exact ⟨rfl, trivial⟩)
  · intro Q ρ I1 H hI1 hk hpost
    obtain ⟨_, -⟩ := hk
    have hc := Mem.le.refl I1
    refine WL.no rfl rfl rfl rfl ?_
    refine WL.nil ?_
    exact hpost _ _ hc rfl _ (fun _ hd => by obtain rfl := Option.some.inj hd; exact ⟨rfl, trivial⟩)
  · intro Q ρ I1 H hI1 hk hpost
    obtain ⟨_, -⟩ := hk
    have hc := Mem.le.refl I1
    refine WL.no rfl rfl rfl rfl ?_
    refine WL.nil ?_
    exact hpost _ _ hc rfl _ (fun _ hd => by obtain rfl := Option.some.inj hd; exact ⟨rfl, trivial⟩)
  · intro Q ρ I1 H hI1 hk hpost
    obtain ⟨_, _, -⟩ := hk
    have hc := Mem.le.refl I1
    refine pkF rfl rfl rfl ?_
    refine WL.nil ?_
    exact hpost _ _ hc rfl _ (fun _ hd => by obtain rfl := Option.some.inj hd; exact ⟨rfl, trivial⟩)
  · intro Q ρ I1 H hI1 hk hpost
    obtain ⟨_, -⟩ := hk
    have hc := Mem.le.refl I1
    refine mv rfl rfl ?_
    refine WL.nil ?_
    exact hpost _ _ hc rfl _ (fun _ hd => by obtain rfl := Option.some.inj hd; exact ⟨rfl, trivial⟩)
  · intro Q ρ I1 H hI1 hk hpost
    obtain ⟨_, -⟩ := hk
    have hc := Mem.le.refl I1
    refine WL.no rfl rfl rfl rfl ?_
    refine WL.nil ?_
    exact hpost _ _ hc rfl _ (fun _ hd => by obtain rfl := Option.some.inj hd; exact ⟨rfl, trivial⟩)
  · intro Q ρ I1 H hI1 hk hpost
    obtain ⟨_, _, -⟩ := hk
    have hc := Mem.le.refl I1
    refine pkF rfl rfl rfl ?_
    refine WL.nil ?_
    exact hpost _ _ hc rfl _ (fun _ hd => by obtain rfl := Option.some.inj hd; exact ⟨rfl, trivial⟩)
  · intro Q ρ I1 H hI1 hk hpost
    obtain ⟨_, -⟩ := hk
    have hc := Mem.le.refl I1
    refine asg rfl rfl ?_
    refine WL.nil ?_
    exact hpost _ _ hc rfl _ (fun _ hd => by obtain rfl := Option.some.inj hd; exact ⟨rfl, trivial⟩)
  rintro ρ J145 hJ146 -
  refine WX.sub (r := [(8, (.bool false))]) ?_ ⟨rfl, trivial⟩
  refine WX.is (H := OV 5 (.slice a68 x62.length c69) x62 :: OV 5 (.slice a59 x53.length c60) x53 :: OV 5 (.slice a50 x44.length c51) x44 :: OV 5 (.slice a41 x35.length c42) x35 :: bl q27 #[(.int .i64 x5.Kind), (.int .i64 x5.Path), (.int .i64 x5.Number), (.int .i64 x5.Of), (.int .i64 x5.From), (.slice q29 x5.Data.length q30), (.bool x5.Fin), (.int .i64 x5.Seen), (.int .i64 x5.Limit)] 41 :: bl q28 #[(.int .i64 x13.Kind), (.int .i64 x13.Path), (.int .i64 x13.Number), (.int .i64 x13.Of), (.int .i64 x13.From), (.slice q32 x13.Data.length q33), (.bool x13.Fin), (.int .i64 x13.Seen), (.int .i64 x13.Limit)] 41 :: G) rfl ?_
  have hI := hI.trans hJ146
  replace q31 := q31.up hJ146; replace q34 := q34.up hJ146
  refine WX.then_ ?_
  refine WC.ret ?_
  cases h
  refine WX.del 0 ?_
  refine WX.del 0 ?_
  refine WX.del 0 ?_
  refine WX.del 0 ?_
  refine WX.del 0 ?_
  refine WX.del 0 ?_
  exact ret1 Try.results7 rfl hI ⟨rfl, rfl⟩
end Go.Proofs.Ytgobccnphhljcaa
