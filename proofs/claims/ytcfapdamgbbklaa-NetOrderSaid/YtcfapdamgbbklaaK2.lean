/- Printed by a program of this session: walks of Go functions. -/
import Derived.Test.YtcfapdamgbbklaaKf
import Derived.Test.YtcfapdamgbbklaaDf
import Derived.Test.YtcfapdamgbbklaaK0
import Derived.Test.YtcfapdamgbbklaaK1
namespace Go.Proofs.Ytcfapdamgbbklaa
set_option linter.unusedVariables false
set_option maxRecDepth 10000
set_option maxHeartbeats 2000000
theorem W19 {I : Mem} {G : List Asn} {p0 : List net_bag} {p1 : Int} {p2 : Int} {r : (List net_bag)} (h : slices_Delete_snet_bag_net_bag p0 p1 p2 = some r) {u0 : Value} :
    CallsS Try.prog 19 #[u0, .int .i64 p1, .int .i64 p2] I (OV 47 u0 p0 :: G) (fun v J G' => ∃ ra0 rc0, v = .slice ra0 r.length rc0 ∧ OV 47 (.slice ra0 r.length rc0) r :: G = G') := by
  refine CallsS.enter Try.func19 rfl Try.ntmps19 rfl (fun w0 => ?_)
  have hI := Mem.le.refl I
  unfold slices_Delete_snet_bag_net_bag at h
  refine WC.seq ?_
  refine WC.region ?_
  refine asg rfl rfl ?_
  refine WL.next ?_
  refine WC.seq ?_
  refine WC.region ?_
  refine mv rfl rfl ?_
  refine mv rfl rfl ?_
  refine mv rfl rfl ?_
  refine mv rfl rfl ?_
  refine ln et40 rfl (OV.rd 0 rfl) rfl ?_
  obtain ⟨k2, h⟩ := chk h
  refine ct3 et40 rfl (OV.rd 0 rfl) rfl rfl rfl k2 rfl (fun uv3 => ?_)
  refine WL.next ?_
  refine WC.seq ?_
  refine WC.seq ?_
  refine WC.region ?_
  refine mv rfl rfl ?_
  refine mv rfl rfl ?_
  refine eq rfl rfl rfl ?_
  refine WL.next ?_
  refine WC.ite rfl h (fun k4 h => ?_) (fun k4 h => ?_)
  · skip
    refine WC.seq ?_
    refine WC.region ?_
    refine mv rfl rfl ?_
    refine asg rfl rfl ?_
    refine WL.next ?_
    refine WC.ret ?_
    refine WX.then_ret ?_
    refine WX.hd (fun a5 c6 e7 => ?_); subst e7
    cases h
    exact ret1 Try.results19 rfl hI ⟨_, _, rfl, rfl⟩
  refine WC.skip ?_
  refine WX.then_ ?_
  refine WC.seq ?_
  refine WC.region ?_
  refine mv rfl rfl ?_
  refine ln et40 rfl (OV.rd 0 rfl) rfl ?_
  refine asg rfl rfl ?_
  refine WL.next ?_
  refine WC.seq ?_
  refine WC.sub (r := [(0, u0), (1, (.int .i64 p1)), (2, (.int .i64 p2)), (7, (.int .i64 (p0.length : Int)))]) ?_ ⟨rfl, rfl, rfl, rfl, trivial⟩
  obtain ⟨k8, h⟩ := chk h
  obtain ⟨k11, h⟩ := chk h
  obtain ⟨k14, h⟩ := chk h
  refine WC.drawn mo (nthL [[], [], [0, 1], [], [], [3, 4], [0, 1, 2, 3, 4, 5], [0, 1, 2, 3, 4, 5, 6]]) (nthL [[], [], [0, 1], [], [], [3, 4], [2, 5], [6]]) (nthK [.val u0, .val (.int .i64 p1), .of (fun v _ => Cutting net_bag u0 (0 : Int).toNat (p1 : Int).toNat v) (fun _ h => h), .val u0, .val (.int .i64 p2), .of (fun v _ => Cutting net_bag u0 (p2 : Int).toNat ((p0.length : Int) : Int).toNat v) (fun _ h => h), .any, .any]) [⟨none, (some 6), [2, 5], [], fun _ => OV 47 u0 p0⟩, ⟨(some 6), (some 7), [], [6], fun l => OVc 47 (vget l 0) (p0.take ((p1 : Int).toNat) ++ p0.drop ((p2 : Int).toNat)) (((p0.length : Int) : Int).toNat)⟩, ⟨(some 7), none, [], [7], fun l => OVc 47 (vget l 0) (p0.take ((p1 : Int).toNat) ++ p0.drop ((p2 : Int).toNat)) (((p0.length : Int) : Int).toNat)⟩] (by kernel_rfl) (by kernel_rfl) (by kernel_rfl) (H := G) rfl ⟨?_, ?_, ?_, ?_, ?_, ?_, ?_, ?_, trivial⟩ ?_
  · intro Q ρ I1 H hI1 hk hpost
    have hc := Mem.le.refl I1
    refine mv rfl rfl ?_
    refine WL.nil ?_
    exact hpost _ _ hc rfl _ (fun _ hd => by obtain rfl := Option.some.inj hd; exact ⟨rfl, trivial⟩)
  · intro Q ρ I1 H hI1 hk hpost
    have hc := Mem.le.refl I1
    refine mv rfl rfl ?_
    refine WL.nil ?_
    exact hpost _ _ hc rfl _ (fun _ hd => by obtain rfl := Option.some.inj hd; exact ⟨rfl, trivial⟩)
  · intro Q ρ I1 H hI1 hk hpost
    obtain ⟨_, _, -⟩ := hk
    have hc := Mem.le.refl I1
    refine ctr 0 et40 rfl rfl (.inl ⟨rfl, rfl⟩) (.inr ⟨_, rfl, rfl⟩) k8 rfl (fun uv9 h10 => ?_)
    refine WL.nil ?_
    exact hpost _ _ hc h10 _ (fun _ hd => by obtain rfl := Option.some.inj hd; exact ⟨rfl, trivial⟩)
  · intro Q ρ I1 H hI1 hk hpost
    have hc := Mem.le.refl I1
    refine mv rfl rfl ?_
    refine WL.nil ?_
    exact hpost _ _ hc rfl _ (fun _ hd => by obtain rfl := Option.some.inj hd; exact ⟨rfl, trivial⟩)
  · intro Q ρ I1 H hI1 hk hpost
    have hc := Mem.le.refl I1
    refine mv rfl rfl ?_
    refine WL.nil ?_
    exact hpost _ _ hc rfl _ (fun _ hd => by obtain rfl := Option.some.inj hd; exact ⟨rfl, trivial⟩)
  · intro Q ρ I1 H hI1 hk hpost
    obtain ⟨_, _, -⟩ := hk
    have hc := Mem.le.refl I1
    refine ctr 0 et40 rfl rfl (.inr ⟨_, rfl, rfl⟩) (.inl ⟨rfl, rfl⟩) k11 rfl (fun uv12 h13 => ?_)
    refine WL.nil ?_
    exact hpost _ _ hc h13 _ (fun _ hd => by obtain rfl := Option.some.inj hd; exact ⟨rfl, trivial⟩)
  · intro Q ρ I1 H hI1 hk hpost
    obtain ⟨k2, k5, -⟩ := hk
    have hc := Mem.le.refl I1
    refine apd et40 rfl rfl k2 k5 k14 rfl (fun uv15 => ?_)
    refine WL.nil ?_
    exact hpost _ _ hc trivial _ (fun _ hd => by obtain rfl := Option.some.inj hd; exact ⟨rfl, trivial⟩)
  · intro Q ρ I1 H hI1 hk hpost
    obtain ⟨_, -⟩ := hk
    have hc := Mem.le.refl I1
    refine asg rfl rfl ?_
    refine WL.nil ?_
    exact hpost _ _ hc trivial _ (fun _ hd => by obtain rfl := Option.some.inj hd; exact ⟨rfl, trivial⟩)
  rintro ρ J16 hJ17 -
  refine WX.sub (r := [(0, (ρ 7)), (7, (.int .i64 (p0.length : Int)))]) ?_ ⟨rfl, rfl, trivial⟩
  refine WX.is (H := OVc 47 (ρ 7) (p0.take ((p1 : Int).toNat) ++ p0.drop ((p2 : Int).toNat)) (((p0.length : Int) : Int).toNat) :: G) rfl ?_
  have hI := hI.trans hJ17
  generalize ρ 7 = uv18 at *; refine WX.hdc (fun a19 c20 e => ?_); subst e
  refine WX.then_ ?_
  refine WC.seq ?_
  refine WC.region ?_
  refine mv rfl rfl ?_
  refine mv rfl rfl ?_
  refine ln et40 rfl (OVc.rd 0 rfl) rfl ?_
  refine mv rfl rfl ?_
  obtain ⟨k21, h⟩ := chk h
  refine ctrc 0 et40 rfl rfl (.inr ⟨_, rfl, rfl⟩) (.inr ⟨_, rfl, rfl⟩) k21 rfl (fun uv22 h23 => ?_)
  refine clr et40 rfl h23 (Int.toNat_natCast _) (by decide) ?_
  refine WL.next ?_
  refine WC.seq ?_
  refine WC.region ?_
  refine mv rfl rfl ?_
  refine asg rfl rfl ?_
  refine WL.next ?_
  refine WC.ret ?_
  cases h
  exact ret1 Try.results19 rfl hI ⟨_, _, rfl, rfl⟩
theorem W9 {I : Mem} {G : List Asn} {p0 : net_Net} {p1 : Int} {p2 : Int} {r : (List UInt8) × Bool × net_Net} (h : net_Net_Take p0 p1 p2 = some r) {g0 : Nat} :
    CallsS Try.prog 9 #[.pointer (some ⟨g0, 0, none⟩), .int .i64 p1, .int .i64 p2] I (Ob_net_Net g0 p0 :: G) (fun v J G' => ∃ ra0 rc0, v = .tuple #[.slice ra0 r.1.length rc0, .bool r.2.1] ∧ OV 5 (.slice ra0 r.1.length rc0) r.1 :: Ob_net_Net g0 (r.2.2) :: G = G') := by
  refine CallsS.enter Try.func9 rfl Try.ntmps9 rfl (fun w0 => ?_)
  have hI := Mem.le.refl I
  unfold net_Net_Take at h
  refine WC.seq ?_
  refine WC.region ?_
  refine asg rfl rfl ?_
  refine asg rfl rfl ?_
  refine WL.next ?_
  refine WC.seq ?_
  refine WC.region ?_
  refine mv rfl rfl ?_
  refine mv rfl rfl ?_
  refine mv rfl rfl ?_
  obtain ⟨⟨x2, x3, s4⟩, e5, h⟩ := bnd h
  refine call cl8 rfl rfl (W8 e5) (fun _ J6 _ hJ7 q8 => ?_)
  have hI := hI.trans hJ7
  obtain ⟨a9, c10, rfl, rfl⟩ := q8
  refine mv rfl rfl ?_
  refine ex rfl rfl rfl ?_
  refine ex rfl rfl rfl ?_
  refine asg rfl rfl ?_
  refine asg rfl rfl ?_
  refine WL.next ?_
  refine WC.seq ?_
  refine WC.seq ?_
  refine WC.region ?_
  refine mv rfl rfl ?_
  refine WL.next ?_
  refine WC.iteb rfl h (fun k12 h => ?_) (fun k12 h => ?_)
  · skip
    rcases spl h with ⟨k13, h⟩ | ⟨k13, h⟩
    · skip
      refine WC.rb 1 rfl (congrArg (Value.int .i64) k13) ?_
      refine WC.front 1 ?_
      refine WC.open_net_Net (fun a14 c15 a17 c18  => ?_)
      refine WC.sub (r := [(0, (.pointer (some ⟨g0, 0, none⟩))), (1, (.int .i64 0)), (2, (.int .i64 p2)), (8, (.slice a9 x2.length c10)), (9, (.bool x3))]) ?_ ⟨rfl, rfl, rfl, rfl, rfl, trivial⟩
      obtain ⟨x20, e21, h⟩ := bnd h
      refine WC.front 1 ?_
      refine WC.front 1 ?_
      refine WC.drawn mo (nthL [[], [], [], [], [2], [2, 4], [2, 3, 4, 5], [2, 3, 4, 5, 6], [], [], [9], [2, 3, 4, 5, 6, 7, 8, 9, 10], [0], [0, 12], [0, 1, 2, 3, 4, 5, 6, 7, 8, 9, 10, 11, 12, 13], [0, 1, 2, 3, 4, 5, 6, 7, 8, 9, 10, 11, 12, 13, 14]]) (nthL [[], [], [], [], [2], [4], [3, 5], [6], [], [], [9], [7, 8, 10], [0], [12], [1, 13], [11, 14]]) (nthK [.val (.pointer (some ⟨g0, 0, none⟩)), .val (.int .i64 0), .val (.pointer (some ⟨g0, 0, none⟩)), .val (.int .i64 0), .val (.pointer (some ⟨g0, 0, none⟩)), .val (.pointer (some ⟨g0, 0, none⟩)), .val (.pointer (some ⟨g0, 0, none⟩)), .val (.slice a14 s4.l_0.length c15), .val (.int .i64 p2), .val (.int .i64 p2), .val (.int .i64 (w64 (p2 + 1))), .any, .val (.pointer (some ⟨g0, 0, none⟩)), .val (.pointer (some ⟨g0, 0, none⟩)), .val (.pointer (some ⟨g0, 0, none⟩)), .any]) [⟨none, (some 15), [6, 7, 14], [], fun _ => bl g0 #[(.slice a14 s4.l_0.length c15), (.slice a17 s4.l_1.length c18)] 43⟩, ⟨none, (some 11), [], [], fun _ => OV 47 (.slice a14 s4.l_0.length c15) s4.l_0⟩, ⟨(some 11), none, [15], [11], fun l => OV 47 (vget l 0) x20⟩, ⟨(some 15), none, [], [11], fun l => bl g0 #[(vget l 0), (.slice a17 s4.l_1.length c18)] 43⟩] (by kernel_rfl) (by kernel_rfl) (by kernel_rfl) (H := OV 47 (.slice a17 s4.l_1.length c18) s4.l_1 :: OV 5 (.slice a9 x2.length c10) x2 :: G) rfl ⟨?_, ?_, ?_, ?_, ?_, ?_, ?_, ?_, ?_, ?_, ?_, ?_, ?_, ?_, ?_, ?_, trivial⟩ ?_
      · intro Q ρ I1 H hI1 hk hpost
        have hc := Mem.le.refl I1
        refine mv rfl rfl ?_
        refine WL.nil ?_
        exact hpost _ _ hc rfl _ (fun _ hd => by obtain rfl := Option.some.inj hd; exact ⟨rfl, trivial⟩)
      · intro Q ρ I1 H hI1 hk hpost
        have hc := Mem.le.refl I1
        refine mv rfl rfl ?_
        refine WL.nil ?_
        exact hpost _ _ hc rfl _ (fun _ hd => by obtain rfl := Option.some.inj hd; exact ⟨rfl, trivial⟩)
      · intro Q ρ I1 H hI1 hk hpost
        have hc := Mem.le.refl I1
        refine mv rfl rfl ?_
        refine WL.nil ?_
        exact hpost _ _ hc rfl _ (fun _ hd => by obtain rfl := Option.some.inj hd; exact ⟨rfl, trivial⟩)
      · intro Q ρ I1 H hI1 hk hpost
        have hc := Mem.le.refl I1
        refine mv rfl rfl ?_
        refine WL.nil ?_
        exact hpost _ _ hc rfl _ (fun _ hd => by obtain rfl := Option.some.inj hd; exact ⟨rfl, trivial⟩)
      · intro Q ρ I1 H hI1 hk hpost
        obtain ⟨_, -⟩ := hk
        have hc := Mem.le.refl I1
        refine nc rfl rfl ?_
        refine WL.nil ?_
        exact hpost _ _ hc rfl _ (fun _ hd => by obtain rfl := Option.some.inj hd; exact ⟨rfl, trivial⟩)
      · intro Q ρ I1 H hI1 hk hpost
        obtain ⟨_, -⟩ := hk
        have hc := Mem.le.refl I1
        refine fa fl43_0 rfl rfl ?_
        refine WL.nil ?_
        exact hpost _ _ hc rfl _ (fun _ hd => by obtain rfl := Option.some.inj hd; exact ⟨rfl, trivial⟩)
      · intro Q ρ I1 H hI1 hk hpost
        obtain ⟨_, _, -⟩ := hk
        have hc := Mem.le.refl I1
        refine ixa (i := 0) at41 rfl rfl rfl rfl rfl rfl ?_
        refine WL.nil ?_
        exact hpost _ _ hc rfl _ (fun _ hd => by obtain rfl := Option.some.inj hd; exact ⟨rfl, trivial⟩)
      · intro Q ρ I1 H hI1 hk hpost
        obtain ⟨_, -⟩ := hk
        have hc := Mem.le.refl I1
        refine ld 0 na40 rfl rfl rfl rfl ?_
        refine WL.nil ?_
        exact hpost _ _ hc rfl _ (fun _ hd => by obtain rfl := Option.some.inj hd; exact ⟨rfl, trivial⟩)
      · intro Q ρ I1 H hI1 hk hpost
        have hc := Mem.le.refl I1
        refine mv rfl rfl ?_
        refine WL.nil ?_
        exact hpost _ _ hc rfl _ (fun _ hd => by obtain rfl := Option.some.inj hd; exact ⟨rfl, trivial⟩)
      · intro Q ρ I1 H hI1 hk hpost
        have hc := Mem.le.refl I1
        refine mv rfl rfl ?_
        refine WL.nil ?_
        exact hpost _ _ hc rfl _ (fun _ hd => by obtain rfl := Option.some.inj hd; exact ⟨rfl, trivial⟩)
      · intro Q ρ I1 H hI1 hk hpost
        obtain ⟨_, -⟩ := hk
        have hc := Mem.le.refl I1
        refine ad rfl rfl rfl ?_
        refine WL.nil ?_
        exact hpost _ _ hc rfl _ (fun _ hd => by obtain rfl := Option.some.inj hd; exact ⟨rfl, trivial⟩)
      · intro Q ρ I1 H hI1 hk hpost
        obtain ⟨_, _, _, -⟩ := hk
        have hc := Mem.le.refl I1
        refine call cl19 rfl rfl (W19 e21) (fun _ J22 _ hJ23 q24 => ?_)
        have hc := hc.trans hJ23
        obtain ⟨a25, c26, rfl, rfl⟩ := q24
        refine WL.nil ?_
        exact hpost _ _ hc trivial _ (fun _ hd => by obtain rfl := Option.some.inj hd; exact ⟨rfl, trivial⟩)
      · intro Q ρ I1 H hI1 hk hpost
        obtain ⟨_, -⟩ := hk
        have hc := Mem.le.refl I1
        refine nc rfl rfl ?_
        refine WL.nil ?_
        exact hpost _ _ hc rfl _ (fun _ hd => by obtain rfl := Option.some.inj hd; exact ⟨rfl, trivial⟩)
      · intro Q ρ I1 H hI1 hk hpost
        obtain ⟨_, -⟩ := hk
        have hc := Mem.le.refl I1
        refine fa fl43_0 rfl rfl ?_
        refine WL.nil ?_
        exact hpost _ _ hc rfl _ (fun _ hd => by obtain rfl := Option.some.inj hd; exact ⟨rfl, trivial⟩)
      · intro Q ρ I1 H hI1 hk hpost
        obtain ⟨_, _, -⟩ := hk
        have hc := Mem.le.refl I1
        refine ixa (i := 0) at41 rfl rfl rfl rfl rfl rfl ?_
        refine WL.nil ?_
        exact hpost _ _ hc rfl _ (fun _ hd => by obtain rfl := Option.some.inj hd; exact ⟨rfl, trivial⟩)
      · intro Q ρ I1 H hI1 hk hpost
        obtain ⟨_, _, -⟩ := hk
        have hc := Mem.le.refl I1
        refine WL.front 1 ?_
        refine WL.hd (fun a28 c29 e30 => ?_)
        refine WL.front 1 ?_
        refine st (C' := #[(ρ 11), (.slice a17 s4.l_1.length c18)]) sz40 rfl rfl (sl_one e30) rfl rfl ?_
        refine WL.front 1 ?_
        refine WL.front 1 ?_
        refine WL.nil ?_
        exact hpost undef _ hc trivial _ (fun _ hd => by cases hd)
      rintro ρ J31 hJ32 -
      refine WX.sub (r := [(8, (.slice a9 x2.length c10)), (9, (.bool x3))]) ?_ ⟨rfl, rfl, trivial⟩
      refine WX.is (H := OV 47 (ρ 11) x20 :: bl g0 #[(ρ 11), (.slice a17 s4.l_1.length c18)] 43 :: OV 47 (.slice a17 s4.l_1.length c18) s4.l_1 :: OV 5 (.slice a9 x2.length c10) x2 :: G) rfl ?_
      have hI := hI.trans hJ32
      generalize ρ 11 = uv33 at *; refine WX.hd (fun a34 c35 e => ?_); subst e
      refine WX.then_ ?_
      refine WC.seq ?_
      refine WC.region ?_
      refine mv rfl rfl ?_
      refine mv rfl rfl ?_
      refine asg rfl rfl ?_
      refine asg rfl rfl ?_
      refine WL.next ?_
      refine WC.ret ?_
      refine WX.front 2 ?_
      refine WX.front 1 ?_
      refine WX.front 2 ?_
      refine WX.shut_net_Net (⟨x20, s4.l_1⟩ : net_Net)  ?_
      refine WX.front 1 ?_
      cases h
      exact ret2 Try.results9 rfl rfl hI ⟨_, _, rfl, rfl⟩
    rcases spl h with ⟨k36, h⟩ | ⟨k36, h⟩
    · skip
      refine WC.rb 1 rfl (congrArg (Value.int .i64) k36) ?_
      refine WC.front 1 ?_
      refine WC.open_net_Net (fun a37 c38 a40 c41  => ?_)
      refine WC.sub (r := [(0, (.pointer (some ⟨g0, 0, none⟩))), (1, (.int .i64 1)), (2, (.int .i64 p2)), (8, (.slice a9 x2.length c10)), (9, (.bool x3))]) ?_ ⟨rfl, rfl, rfl, rfl, rfl, trivial⟩
      obtain ⟨x43, e44, h⟩ := bnd h
      refine WC.front 2 ?_
      refine WC.front 1 ?_
      refine WC.drawn mo (nthL [[], [], [], [], [2], [2, 4], [2, 3, 4, 5], [2, 3, 4, 5, 6], [], [], [9], [2, 3, 4, 5, 6, 7, 8, 9, 10], [0], [0, 12], [0, 1, 2, 3, 4, 5, 6, 7, 8, 9, 10, 11, 12, 13], [0, 1, 2, 3, 4, 5, 6, 7, 8, 9, 10, 11, 12, 13, 14]]) (nthL [[], [], [], [], [2], [4], [3, 5], [6], [], [], [9], [7, 8, 10], [0], [12], [1, 13], [11, 14]]) (nthK [.val (.pointer (some ⟨g0, 0, none⟩)), .val (.int .i64 1), .val (.pointer (some ⟨g0, 0, none⟩)), .val (.int .i64 1), .val (.pointer (some ⟨g0, 0, none⟩)), .val (.pointer (some ⟨g0, 0, none⟩)), .val (.pointer (some ⟨g0, 1, none⟩)), .val (.slice a40 s4.l_1.length c41), .val (.int .i64 p2), .val (.int .i64 p2), .val (.int .i64 (w64 (p2 + 1))), .any, .val (.pointer (some ⟨g0, 0, none⟩)), .val (.pointer (some ⟨g0, 0, none⟩)), .val (.pointer (some ⟨g0, 1, none⟩)), .any]) [⟨none, (some 15), [6, 7, 14], [], fun _ => bl g0 #[(.slice a37 s4.l_0.length c38), (.slice a40 s4.l_1.length c41)] 43⟩, ⟨none, (some 11), [], [], fun _ => OV 47 (.slice a40 s4.l_1.length c41) s4.l_1⟩, ⟨(some 11), none, [15], [11], fun l => OV 47 (vget l 0) x43⟩, ⟨(some 15), none, [], [11], fun l => bl g0 #[(.slice a37 s4.l_0.length c38), (vget l 0)] 43⟩] (by kernel_rfl) (by kernel_rfl) (by kernel_rfl) (H := OV 47 (.slice a37 s4.l_0.length c38) s4.l_0 :: OV 5 (.slice a9 x2.length c10) x2 :: G) rfl ⟨?_, ?_, ?_, ?_, ?_, ?_, ?_, ?_, ?_, ?_, ?_, ?_, ?_, ?_, ?_, ?_, trivial⟩ ?_
      · intro Q ρ I1 H hI1 hk hpost
        have hc := Mem.le.refl I1
        refine mv rfl rfl ?_
        refine WL.nil ?_
        exact hpost _ _ hc rfl _ (fun _ hd => by obtain rfl := Option.some.inj hd; exact ⟨rfl, trivial⟩)
      · intro Q ρ I1 H hI1 hk hpost
        have hc := Mem.le.refl I1
        refine mv rfl rfl ?_
        refine WL.nil ?_
        exact hpost _ _ hc rfl _ (fun _ hd => by obtain rfl := Option.some.inj hd; exact ⟨rfl, trivial⟩)
      · intro Q ρ I1 H hI1 hk hpost
        have hc := Mem.le.refl I1
        refine mv rfl rfl ?_
        refine WL.nil ?_
        exact hpost _ _ hc rfl _ (fun _ hd => by obtain rfl := Option.some.inj hd; exact ⟨rfl, trivial⟩)
      · intro Q ρ I1 H hI1 hk hpost
        have hc := Mem.le.refl I1
        refine mv rfl rfl ?_
        refine WL.nil ?_
        exact hpost _ _ hc rfl _ (fun _ hd => by obtain rfl := Option.some.inj hd; exact ⟨rfl, trivial⟩)
      · intro Q ρ I1 H hI1 hk hpost
        obtain ⟨_, -⟩ := hk
        have hc := Mem.le.refl I1
        refine nc rfl rfl ?_
        refine WL.nil ?_
        exact hpost _ _ hc rfl _ (fun _ hd => by obtain rfl := Option.some.inj hd; exact ⟨rfl, trivial⟩)
      · intro Q ρ I1 H hI1 hk hpost
        obtain ⟨_, -⟩ := hk
        have hc := Mem.le.refl I1
        refine fa fl43_0 rfl rfl ?_
        refine WL.nil ?_
        exact hpost _ _ hc rfl _ (fun _ hd => by obtain rfl := Option.some.inj hd; exact ⟨rfl, trivial⟩)
      · intro Q ρ I1 H hI1 hk hpost
        obtain ⟨_, _, -⟩ := hk
        have hc := Mem.le.refl I1
        refine ixa (i := 1) at41 rfl rfl rfl rfl rfl rfl ?_
        refine WL.nil ?_
        exact hpost _ _ hc rfl _ (fun _ hd => by obtain rfl := Option.some.inj hd; exact ⟨rfl, trivial⟩)
      · intro Q ρ I1 H hI1 hk hpost
        obtain ⟨_, -⟩ := hk
        have hc := Mem.le.refl I1
        refine ld 0 na40 rfl rfl rfl rfl ?_
        refine WL.nil ?_
        exact hpost _ _ hc rfl _ (fun _ hd => by obtain rfl := Option.some.inj hd; exact ⟨rfl, trivial⟩)
      · intro Q ρ I1 H hI1 hk hpost
        have hc := Mem.le.refl I1
        refine mv rfl rfl ?_
        refine WL.nil ?_
        exact hpost _ _ hc rfl _ (fun _ hd => by obtain rfl := Option.some.inj hd; exact ⟨rfl, trivial⟩)
      · intro Q ρ I1 H hI1 hk hpost
        have hc := Mem.le.refl I1
        refine mv rfl rfl ?_
        refine WL.nil ?_
        exact hpost _ _ hc rfl _ (fun _ hd => by obtain rfl := Option.some.inj hd; exact ⟨rfl, trivial⟩)
      · intro Q ρ I1 H hI1 hk hpost
        obtain ⟨_, -⟩ := hk
        have hc := Mem.le.refl I1
        refine ad rfl rfl rfl ?_
        refine WL.nil ?_
        exact hpost _ _ hc rfl _ (fun _ hd => by obtain rfl := Option.some.inj hd; exact ⟨rfl, trivial⟩)
      · intro Q ρ I1 H hI1 hk hpost
        obtain ⟨_, _, _, -⟩ := hk
        have hc := Mem.le.refl I1
        refine call cl19 rfl rfl (W19 e44) (fun _ J45 _ hJ46 q47 => ?_)
        have hc := hc.trans hJ46
        obtain ⟨a48, c49, rfl, rfl⟩ := q47
        refine WL.nil ?_
        exact hpost _ _ hc trivial _ (fun _ hd => by obtain rfl := Option.some.inj hd; exact ⟨rfl, trivial⟩)
      · intro Q ρ I1 H hI1 hk hpost
        obtain ⟨_, -⟩ := hk
        have hc := Mem.le.refl I1
        refine nc rfl rfl ?_
        refine WL.nil ?_
        exact hpost _ _ hc rfl _ (fun _ hd => by obtain rfl := Option.some.inj hd; exact ⟨rfl, trivial⟩)
      · intro Q ρ I1 H hI1 hk hpost
        obtain ⟨_, -⟩ := hk
        have hc := Mem.le.refl I1
        refine fa fl43_0 rfl rfl ?_
        refine WL.nil ?_
        exact hpost _ _ hc rfl _ (fun _ hd => by obtain rfl := Option.some.inj hd; exact ⟨rfl, trivial⟩)
      · intro Q ρ I1 H hI1 hk hpost
        obtain ⟨_, _, -⟩ := hk
        have hc := Mem.le.refl I1
        refine ixa (i := 1) at41 rfl rfl rfl rfl rfl rfl ?_
        refine WL.nil ?_
        exact hpost _ _ hc rfl _ (fun _ hd => by obtain rfl := Option.some.inj hd; exact ⟨rfl, trivial⟩)
      · intro Q ρ I1 H hI1 hk hpost
        obtain ⟨_, _, -⟩ := hk
        have hc := Mem.le.refl I1
        refine WL.front 1 ?_
        refine WL.hd (fun a51 c52 e53 => ?_)
        refine WL.front 1 ?_
        refine st (C' := #[(.slice a37 s4.l_0.length c38), (ρ 11)]) sz40 rfl rfl (sl_one e53) rfl rfl ?_
        refine WL.front 1 ?_
        refine WL.front 1 ?_
        refine WL.nil ?_
        exact hpost undef _ hc trivial _ (fun _ hd => by cases hd)
      rintro ρ J54 hJ55 -
      refine WX.sub (r := [(8, (.slice a9 x2.length c10)), (9, (.bool x3))]) ?_ ⟨rfl, rfl, trivial⟩
      refine WX.is (H := OV 47 (ρ 11) x43 :: bl g0 #[(.slice a37 s4.l_0.length c38), (ρ 11)] 43 :: OV 47 (.slice a37 s4.l_0.length c38) s4.l_0 :: OV 5 (.slice a9 x2.length c10) x2 :: G) rfl ?_
      have hI := hI.trans hJ55
      generalize ρ 11 = uv56 at *; refine WX.hd (fun a57 c58 e => ?_); subst e
      refine WX.then_ ?_
      refine WC.seq ?_
      refine WC.region ?_
      refine mv rfl rfl ?_
      refine mv rfl rfl ?_
      refine asg rfl rfl ?_
      refine asg rfl rfl ?_
      refine WL.next ?_
      refine WC.ret ?_
      refine WX.front 2 ?_
      refine WX.front 2 ?_
      refine WX.shut_net_Net (⟨s4.l_0, x43⟩ : net_Net)  ?_
      refine WX.front 1 ?_
      cases h
      exact ret2 Try.results9 rfl rfl hI ⟨_, _, rfl, rfl⟩
    cases h
  refine WC.skip ?_
  refine WX.then_ ?_
  refine WC.seq ?_
  refine WC.region ?_
  refine mv rfl rfl ?_
  refine mv rfl rfl ?_
  refine asg rfl rfl ?_
  refine asg rfl rfl ?_
  refine WL.next ?_
  refine WC.ret ?_
  refine WX.front 1 ?_
  refine WX.front 1 ?_
  cases h
  exact ret2 Try.results9 rfl rfl hI ⟨_, _, rfl, rfl⟩
theorem W10 {I : Mem} {G : List Asn} {p0 : net_Net} {p1 : Int} {p2 : Int} {r : Bool × net_Net} (h : net_Net_Again p0 p1 p2 = some r) {g0 : Nat} :
    CallsS Try.prog 10 #[.pointer (some ⟨g0, 0, none⟩), .int .i64 p1, .int .i64 p2] I (Ob_net_Net g0 p0 :: G) (fun v J G' => v = .bool r.1 ∧ Ob_net_Net g0 (r.2) :: G = G') := by
  refine CallsS.enter Try.func10 rfl Try.ntmps10 rfl (fun w0 => ?_)
  have hI := Mem.le.refl I
  unfold net_Net_Again at h
  refine WC.seq ?_
  refine WC.region ?_
  refine asg rfl rfl ?_
  refine WL.next ?_
  refine WC.seq ?_
  refine WC.seq ?_
  obtain ⟨j30, hj30, h⟩ := bnd h
  refine WC.joinQ (σ := net_Net × Bool) (fun (s28, x29) => [(0, (.pointer (some ⟨g0, 0, none⟩))), (1, (.int .i64 p1)), (2, (.int .i64 p2)), (17, (.bool x29))]) (fun (s28, x29) => Ob_net_Net g0 s28 :: G) (fun (s28, x29) J => (s28, x29) = j30) (fun kj30 => ?_) ?_
  · skip
    have lj30 := Mem.le.refl I
    refine WC.region ?_
    refine mv rfl rfl ?_
    refine mv rfl rfl ?_
    refine mv rfl rfl ?_
    obtain ⟨⟨x31, s32⟩, e33, hj30⟩ := bnd hj30
    refine call cl17 rfl rfl (W17 e33) (fun _ J34 _ hJ35 q36 => ?_)
    have hI := hI.trans hJ35
    have lj30 := lj30.trans hJ35
    obtain ⟨rfl, rfl⟩ := q36
    refine nt rfl rfl ?_
    refine mv rfl rfl ?_
    rcases spl hj30 with ⟨k37, hj30⟩ | ⟨k37, hj30⟩
    · skip
      refine WL.rb 12 rfl (bt1n k37) ?_
      refine WL.on rfl rfl ?_
      refine mv rfl rfl ?_
      refine WL.on rfl rfl ?_
      refine mv rfl rfl ?_
      refine WL.on rfl rfl ?_
      obtain ⟨⟨x38, s39⟩, e40, hj30⟩ := bnd hj30
      refine call cl11 rfl rfl (W11 e40) (fun _ J41 _ hJ42 q43 => ?_)
      have hI := hI.trans hJ42
      have lj30 := lj30.trans hJ42
      obtain ⟨rfl, rfl⟩ := q43
      refine WL.on rfl rfl ?_
      refine ge rfl rfl rfl ?_
      refine pkF rfl rfl rfl ?_
      refine WL.nil ?_
      exact (kj30 ⟨s39, (decide (200 ≤ x38))⟩ _ lj30 (Option.some.inj hj30)).sub ⟨rfl, rfl, rfl, rfl, trivial⟩
    refine WL.rb 12 rfl (bf1n k37) ?_
    refine WL.no rfl rfl rfl rfl ?_
    refine WL.no rfl rfl rfl rfl ?_
    refine WL.no rfl rfl rfl rfl ?_
    refine WL.no rfl rfl rfl rfl ?_
    refine pkT rfl rfl rfl ?_
    refine WL.nil ?_
    exact (kj30 ⟨s32, true⟩ _ lj30 (Option.some.inj hj30)).sub ⟨rfl, rfl, rfl, rfl, trivial⟩
  rintro ⟨s28, x29⟩ J44 hJ45 rfl
  have hI := hI.trans hJ45
  refine WX.then_ ?_
  refine WC.iteb rfl h (fun k46 h => ?_) (fun k46 h => ?_)
  · skip
    refine WC.seq ?_
    refine WC.region ?_
    refine asg rfl rfl ?_
    refine WL.next ?_
    refine WC.ret ?_
    refine WX.then_ret ?_
    cases h
    exact ret1 Try.results10 rfl hI ⟨rfl, rfl⟩
  refine WC.skip ?_
  refine WX.then_ ?_
  refine WC.seq ?_
  rcases spl h with ⟨k47, h⟩ | ⟨k47, h⟩
  · skip
    refine WC.rb 1 rfl (congrArg (Value.int .i64) k47) ?_
    refine WC.open_net_Net (fun a48 c49 a51 c52  => ?_)
    refine WC.sub (r := [(0, (.pointer (some ⟨g0, 0, none⟩))), (1, (.int .i64 0)), (2, (.int .i64 p2))]) ?_ ⟨rfl, rfl, rfl, trivial⟩
    obtain ⟨k54, h⟩ := chk h
    obtain ⟨z59, e60, h⟩ := bnd h
    obtain ⟨k67, h⟩ := chk h
    obtain ⟨x70, e71, h⟩ := bnd h
    refine WC.front 1 ?_
    refine WC.front 1 ?_
    refine WC.drawn mo (nthL [[], [], [], [], [2], [2, 4], [2, 3, 4, 5], [2, 3, 4, 5, 6], [], [], [8], [8, 10], [8, 9, 10, 11], [8, 9, 10, 11, 12], [], [8, 9, 10, 11, 12, 13, 14], [8, 9, 10, 11, 12, 13, 14, 15], [8, 9, 10, 11, 12, 13, 14, 15, 16], [2, 3, 4, 5, 6, 7, 8, 9, 10, 11, 12, 13, 14, 15, 16, 17], [0], [0, 19], [0, 1, 2, 3, 4, 5, 6, 7, 8, 9, 10, 11, 12, 13, 14, 15, 16, 17, 18, 19, 20], [0, 1, 2, 3, 4, 5, 6, 7, 8, 9, 10, 11, 12, 13, 14, 15, 16, 17, 18, 19, 20, 21]]) (nthL [[], [], [], [], [2], [4], [3, 5], [6], [], [], [8], [10], [9, 11], [12], [], [13, 14], [15], [16], [7, 17], [0], [19], [1, 20], [18, 21]]) (nthK [.val (.pointer (some ⟨g0, 0, none⟩)), .val (.int .i64 0), .val (.pointer (some ⟨g0, 0, none⟩)), .val (.int .i64 0), .val (.pointer (some ⟨g0, 0, none⟩)), .val (.pointer (some ⟨g0, 0, none⟩)), .val (.pointer (some ⟨g0, 0, none⟩)), .val (.slice a48 s28.l_0.length c49), .val (.pointer (some ⟨g0, 0, none⟩)), .val (.int .i64 0), .val (.pointer (some ⟨g0, 0, none⟩)), .val (.pointer (some ⟨g0, 0, none⟩)), .val (.pointer (some ⟨g0, 0, none⟩)), .val (.slice a48 s28.l_0.length c49), .val (.int .i64 p2), .of (fun v _ => At net_bag (.slice a48 s28.l_0.length c49) (p2 : Int).toNat v) (fun _ h => h), .of (fun v I => ∃ a16_0 c16_0, v = (.agg #[(.slice a16_0 z59.b_.length c16_0), (.bool z59.spoilt_)]) ∧ IV I (.slice a16_0 z59.b_.length c16_0) z59.b_) (fun q ⟨a16_0, c16_0, e, h16_0⟩ => ⟨a16_0, c16_0, e, h16_0.up q⟩), .any, .any, .val (.pointer (some ⟨g0, 0, none⟩)), .val (.pointer (some ⟨g0, 0, none⟩)), .val (.pointer (some ⟨g0, 0, none⟩)), .any]) [⟨none, (some 22), [6, 7, 12, 13, 21], [], fun _ => bl g0 #[(.slice a48 s28.l_0.length c49), (.slice a51 s28.l_1.length c52)] 43⟩, ⟨none, (some 18), [15, 16], [], fun _ => OV 47 (.slice a48 s28.l_0.length c49) s28.l_0⟩, ⟨(some 17), none, [18], [17], fun l => OV 47 (vget l 0) ([(⟨z59.b_, z59.spoilt_⟩ : net_bag)] : List net_bag)⟩, ⟨(some 18), none, [22], [18], fun l => OV 47 (vget l 0) x70⟩, ⟨(some 22), none, [], [18], fun l => bl g0 #[(vget l 0), (.slice a51 s28.l_1.length c52)] 43⟩] (by kernel_rfl) (by kernel_rfl) (by kernel_rfl) (H := OV 47 (.slice a51 s28.l_1.length c52) s28.l_1 :: G) rfl ⟨?_, ?_, ?_, ?_, ?_, ?_, ?_, ?_, ?_, ?_, ?_, ?_, ?_, ?_, ?_, ?_, ?_, ?_, ?_, ?_, ?_, ?_, ?_, trivial⟩ ?_
    · intro Q ρ I1 H hI1 hk hpost
      have hc := Mem.le.refl I1
      refine mv rfl rfl ?_
      refine WL.nil ?_
      exact hpost _ _ hc rfl _ (fun _ hd => by obtain rfl := Option.some.inj hd; exact ⟨rfl, trivial⟩)
    · intro Q ρ I1 H hI1 hk hpost
      have hc := Mem.le.refl I1
      refine mv rfl rfl ?_
      refine WL.nil ?_
      exact hpost _ _ hc rfl _ (fun _ hd => by obtain rfl := Option.some.inj hd; exact ⟨rfl, trivial⟩)
    · intro Q ρ I1 H hI1 hk hpost
      have hc := Mem.le.refl I1
      refine mv rfl rfl ?_
      refine WL.nil ?_
      exact hpost _ _ hc rfl _ (fun _ hd => by obtain rfl := Option.some.inj hd; exact ⟨rfl, trivial⟩)
    · intro Q ρ I1 H hI1 hk hpost
      have hc := Mem.le.refl I1
      refine mv rfl rfl ?_
      refine WL.nil ?_
      exact hpost _ _ hc rfl _ (fun _ hd => by obtain rfl := Option.some.inj hd; exact ⟨rfl, trivial⟩)
    · intro Q ρ I1 H hI1 hk hpost
      obtain ⟨_, -⟩ := hk
      have hc := Mem.le.refl I1
      refine nc rfl rfl ?_
      refine WL.nil ?_
      exact hpost _ _ hc rfl _ (fun _ hd => by obtain rfl := Option.some.inj hd; exact ⟨rfl, trivial⟩)
    · intro Q ρ I1 H hI1 hk hpost
      obtain ⟨_, -⟩ := hk
      have hc := Mem.le.refl I1
      refine fa fl43_0 rfl rfl ?_
      refine WL.nil ?_
      exact hpost _ _ hc rfl _ (fun _ hd => by obtain rfl := Option.some.inj hd; exact ⟨rfl, trivial⟩)
    · intro Q ρ I1 H hI1 hk hpost
      obtain ⟨_, _, -⟩ := hk
      have hc := Mem.le.refl I1
      refine ixa (i := 0) at41 rfl rfl rfl rfl rfl rfl ?_
      refine WL.nil ?_
      exact hpost _ _ hc rfl _ (fun _ hd => by obtain rfl := Option.some.inj hd; exact ⟨rfl, trivial⟩)
    · intro Q ρ I1 H hI1 hk hpost
      obtain ⟨_, -⟩ := hk
      have hc := Mem.le.refl I1
      refine ld 0 na40 rfl rfl rfl rfl ?_
      refine WL.nil ?_
      exact hpost _ _ hc rfl _ (fun _ hd => by obtain rfl := Option.some.inj hd; exact ⟨rfl, trivial⟩)
    · intro Q ρ I1 H hI1 hk hpost
      have hc := Mem.le.refl I1
      refine mv rfl rfl ?_
      refine WL.nil ?_
      exact hpost _ _ hc rfl _ (fun _ hd => by obtain rfl := Option.some.inj hd; exact ⟨rfl, trivial⟩)
    · intro Q ρ I1 H hI1 hk hpost
      have hc := Mem.le.refl I1
      refine mv rfl rfl ?_
      refine WL.nil ?_
      exact hpost _ _ hc rfl _ (fun _ hd => by obtain rfl := Option.some.inj hd; exact ⟨rfl, trivial⟩)
    · intro Q ρ I1 H hI1 hk hpost
      obtain ⟨_, -⟩ := hk
      have hc := Mem.le.refl I1
      refine nc rfl rfl ?_
      refine WL.nil ?_
      exact hpost _ _ hc rfl _ (fun _ hd => by obtain rfl := Option.some.inj hd; exact ⟨rfl, trivial⟩)
    · intro Q ρ I1 H hI1 hk hpost
      obtain ⟨_, -⟩ := hk
      have hc := Mem.le.refl I1
      refine fa fl43_0 rfl rfl ?_
      refine WL.nil ?_
      exact hpost _ _ hc rfl _ (fun _ hd => by obtain rfl := Option.some.inj hd; exact ⟨rfl, trivial⟩)
    · intro Q ρ I1 H hI1 hk hpost
      obtain ⟨_, _, -⟩ := hk
      have hc := Mem.le.refl I1
      refine ixa (i := 0) at41 rfl rfl rfl rfl rfl rfl ?_
      refine WL.nil ?_
      exact hpost _ _ hc rfl _ (fun _ hd => by obtain rfl := Option.some.inj hd; exact ⟨rfl, trivial⟩)
    · intro Q ρ I1 H hI1 hk hpost
      obtain ⟨_, -⟩ := hk
      have hc := Mem.le.refl I1
      refine ld 0 na40 rfl rfl rfl rfl ?_
      refine WL.nil ?_
      exact hpost _ _ hc rfl _ (fun _ hd => by obtain rfl := Option.some.inj hd; exact ⟨rfl, trivial⟩)
    · intro Q ρ I1 H hI1 hk hpost
      have hc := Mem.le.refl I1
      refine mv rfl rfl ?_
      refine WL.nil ?_
      exact hpost _ _ hc rfl _ (fun _ hd => by obtain rfl := Option.some.inj hd; exact ⟨rfl, trivial⟩)
    · intro Q ρ I1 H hI1 hk hpost
      obtain ⟨_, _, -⟩ := hk
      have hc := Mem.le.refl I1
      refine ixo 0 et40 rfl rfl rfl k54 rfl (fun uv55 h56 => ?_)
      refine WL.nil ?_
      exact hpost _ _ hc h56 _ (fun _ hd => by obtain rfl := Option.some.inj hd; exact ⟨rfl, trivial⟩)
    · intro Q ρ I1 H hI1 hk hpost
      obtain ⟨k15, -⟩ := hk
      have hc := Mem.le.refl I1
      refine ldo (α := net_bag) 0 ya47 rfl k15 rfl e60 rfl (fun uv57 h58 => ?_)
      obtain ⟨a61, c62, rfl, h63⟩ := Rv.of_net_bag h58
      refine WL.nil ?_
      exact hpost _ _ hc ⟨_, _, rfl, h63⟩ _ (fun _ hd => by obtain rfl := Option.some.inj hd; exact ⟨rfl, trivial⟩)
    · intro Q ρ I1 H hI1 hk hpost
      obtain ⟨k16, -⟩ := hk
      have hc := Mem.le.refl I1
      refine WL.sub (r := [(34, (ρ 16))]) ?_ ⟨rfl, trivial⟩
      obtain ⟨a16_0, c16_0, ex16, h16_0⟩ := k16
      try rw [ex16]
      refine bs (os := [.tmp 34]) (xs := ([(⟨z59.b_, z59.spoilt_⟩ : net_bag)] : List net_bag)) et40 rfl rfl ⟨(Rv.mk_net_bag (⟨z59.b_, z59.spoilt_⟩ : net_bag) h16_0), trivial⟩ rfl rfl rfl rfl (fun a64 c65 => ?_)
      refine WL.nil ?_
      exact hpost _ _ hc trivial _ (fun _ hd => by obtain rfl := Option.some.inj hd; exact ⟨rfl, trivial⟩)
    · intro Q ρ I1 H hI1 hk hpost
      obtain ⟨_, _, -⟩ := hk
      have hc := Mem.le.refl I1
      refine ap et40 rfl rfl ((OV.rd 1 rfl)) k67 rfl (fun a68 c69 => ?_)
      refine WL.ren (Option.some.inj e71) ?_
      refine WL.front 1 ?_
      refine WL.front 1 ?_
      refine WL.nil ?_
      exact hpost _ _ hc trivial _ (fun _ hd => by obtain rfl := Option.some.inj hd; exact ⟨rfl, trivial⟩)
    · intro Q ρ I1 H hI1 hk hpost
      obtain ⟨_, -⟩ := hk
      have hc := Mem.le.refl I1
      refine nc rfl rfl ?_
      refine WL.nil ?_
      exact hpost _ _ hc rfl _ (fun _ hd => by obtain rfl := Option.some.inj hd; exact ⟨rfl, trivial⟩)
    · intro Q ρ I1 H hI1 hk hpost
      obtain ⟨_, -⟩ := hk
      have hc := Mem.le.refl I1
      refine fa fl43_0 rfl rfl ?_
      refine WL.nil ?_
      exact hpost _ _ hc rfl _ (fun _ hd => by obtain rfl := Option.some.inj hd; exact ⟨rfl, trivial⟩)
    · intro Q ρ I1 H hI1 hk hpost
      obtain ⟨_, _, -⟩ := hk
      have hc := Mem.le.refl I1
      refine ixa (i := 0) at41 rfl rfl rfl rfl rfl rfl ?_
      refine WL.nil ?_
      exact hpost _ _ hc rfl _ (fun _ hd => by obtain rfl := Option.some.inj hd; exact ⟨rfl, trivial⟩)
    · intro Q ρ I1 H hI1 hk hpost
      obtain ⟨_, _, -⟩ := hk
      have hc := Mem.le.refl I1
      refine WL.front 1 ?_
      refine WL.hd (fun a72 c73 e74 => ?_)
      refine WL.front 1 ?_
      refine st (C' := #[(ρ 18), (.slice a51 s28.l_1.length c52)]) sz40 rfl rfl (sl_one e74) rfl rfl ?_
      refine WL.front 1 ?_
      refine WL.front 1 ?_
      refine WL.nil ?_
      exact hpost undef _ hc trivial _ (fun _ hd => by cases hd)
    rintro ρ J75 hJ76 -
    refine WX.sub (r := []) ?_ trivial
    refine WX.is (H := OV 47 (ρ 17) ([(⟨z59.b_, z59.spoilt_⟩ : net_bag)] : List net_bag) :: OV 47 (ρ 18) x70 :: bl g0 #[(ρ 18), (.slice a51 s28.l_1.length c52)] 43 :: OV 47 (.slice a51 s28.l_1.length c52) s28.l_1 :: G) rfl ?_
    have hI := hI.trans hJ76
    refine WX.front 1 ?_
    generalize ρ 18 = uv77 at *; refine WX.hd (fun a78 c79 e => ?_); subst e
    refine WX.then_ ?_
    refine WC.seq ?_
    refine WC.region ?_
    refine asg rfl rfl ?_
    refine WL.del 1 ?_
    refine WL.next ?_
    refine WC.ret ?_
    refine WX.front 2 ?_
    refine WX.front 1 ?_
    refine WX.front 2 ?_
    refine WX.shut_net_Net (⟨x70, s28.l_1⟩ : net_Net)  ?_
    cases h
    exact ret1 Try.results10 rfl hI ⟨rfl, rfl⟩
  rcases spl h with ⟨k80, h⟩ | ⟨k80, h⟩
  · skip
    refine WC.rb 1 rfl (congrArg (Value.int .i64) k80) ?_
    refine WC.open_net_Net (fun a81 c82 a84 c85  => ?_)
    refine WC.sub (r := [(0, (.pointer (some ⟨g0, 0, none⟩))), (1, (.int .i64 1)), (2, (.int .i64 p2))]) ?_ ⟨rfl, rfl, rfl, trivial⟩
    obtain ⟨k87, h⟩ := chk h
    obtain ⟨z92, e93, h⟩ := bnd h
    obtain ⟨k100, h⟩ := chk h
    obtain ⟨x103, e104, h⟩ := bnd h
    refine WC.front 2 ?_
    refine WC.front 1 ?_
    refine WC.drawn mo (nthL [[], [], [], [], [2], [2, 4], [2, 3, 4, 5], [2, 3, 4, 5, 6], [], [], [8], [8, 10], [8, 9, 10, 11], [8, 9, 10, 11, 12], [], [8, 9, 10, 11, 12, 13, 14], [8, 9, 10, 11, 12, 13, 14, 15], [8, 9, 10, 11, 12, 13, 14, 15, 16], [2, 3, 4, 5, 6, 7, 8, 9, 10, 11, 12, 13, 14, 15, 16, 17], [0], [0, 19], [0, 1, 2, 3, 4, 5, 6, 7, 8, 9, 10, 11, 12, 13, 14, 15, 16, 17, 18, 19, 20], [0, 1, 2, 3, 4, 5, 6, 7, 8, 9, 10, 11, 12, 13, 14, 15, 16, 17, 18, 19, 20, 21]]) (nthL [[], [], [], [], [2], [4], [3, 5], [6], [], [], [8], [10], [9, 11], [12], [], [13, 14], [15], [16], [7, 17], [0], [19], [1, 20], [18, 21]]) (nthK [.val (.pointer (some ⟨g0, 0, none⟩)), .val (.int .i64 1), .val (.pointer (some ⟨g0, 0, none⟩)), .val (.int .i64 1), .val (.pointer (some ⟨g0, 0, none⟩)), .val (.pointer (some ⟨g0, 0, none⟩)), .val (.pointer (some ⟨g0, 1, none⟩)), .val (.slice a84 s28.l_1.length c85), .val (.pointer (some ⟨g0, 0, none⟩)), .val (.int .i64 1), .val (.pointer (some ⟨g0, 0, none⟩)), .val (.pointer (some ⟨g0, 0, none⟩)), .val (.pointer (some ⟨g0, 1, none⟩)), .val (.slice a84 s28.l_1.length c85), .val (.int .i64 p2), .of (fun v _ => At net_bag (.slice a84 s28.l_1.length c85) (p2 : Int).toNat v) (fun _ h => h), .of (fun v I => ∃ a16_0 c16_0, v = (.agg #[(.slice a16_0 z92.b_.length c16_0), (.bool z92.spoilt_)]) ∧ IV I (.slice a16_0 z92.b_.length c16_0) z92.b_) (fun q ⟨a16_0, c16_0, e, h16_0⟩ => ⟨a16_0, c16_0, e, h16_0.up q⟩), .any, .any, .val (.pointer (some ⟨g0, 0, none⟩)), .val (.pointer (some ⟨g0, 0, none⟩)), .val (.pointer (some ⟨g0, 1, none⟩)), .any]) [⟨none, (some 22), [6, 7, 12, 13, 21], [], fun _ => bl g0 #[(.slice a81 s28.l_0.length c82), (.slice a84 s28.l_1.length c85)] 43⟩, ⟨none, (some 18), [15, 16], [], fun _ => OV 47 (.slice a84 s28.l_1.length c85) s28.l_1⟩, ⟨(some 17), none, [18], [17], fun l => OV 47 (vget l 0) ([(⟨z92.b_, z92.spoilt_⟩ : net_bag)] : List net_bag)⟩, ⟨(some 18), none, [22], [18], fun l => OV 47 (vget l 0) x103⟩, ⟨(some 22), none, [], [18], fun l => bl g0 #[(.slice a81 s28.l_0.length c82), (vget l 0)] 43⟩] (by kernel_rfl) (by kernel_rfl) (by kernel_rfl) (H := OV 47 (.slice a81 s28.l_0.length c82) s28.l_0 :: G) rfl ⟨?_, ?_, ?_, ?_, ?_, ?_, ?_, ?_, ?_, ?_, ?_, ?_, ?_, ?_, ?_, ?_, ?_, ?_, ?_, ?_, ?_, ?_, ?_, trivial⟩ ?_
    · intro Q ρ I1 H hI1 hk hpost
      have hc := Mem.le.refl I1
      refine mv rfl rfl ?_
      refine WL.nil ?_
      exact hpost _ _ hc rfl _ (fun _ hd => by obtain rfl := Option.some.inj hd; exact ⟨rfl, trivial⟩)
    · intro Q ρ I1 H hI1 hk hpost
      have hc := Mem.le.refl I1
      refine mv rfl rfl ?_
      refine WL.nil ?_
      exact hpost _ _ hc rfl _ (fun _ hd => by obtain rfl := Option.some.inj hd; exact ⟨rfl, trivial⟩)
    · intro Q ρ I1 H hI1 hk hpost
      have hc := Mem.le.refl I1
      refine mv rfl rfl ?_
      refine WL.nil ?_
      exact hpost _ _ hc rfl _ (fun _ hd => by obtain rfl := Option.some.inj hd; exact ⟨rfl, trivial⟩)
    · intro Q ρ I1 H hI1 hk hpost
      have hc := Mem.le.refl I1
      refine mv rfl rfl ?_
      refine WL.nil ?_
      exact hpost _ _ hc rfl _ (fun _ hd => by obtain rfl := Option.some.inj hd; exact ⟨rfl, trivial⟩)
    · intro Q ρ I1 H hI1 hk hpost
      obtain ⟨_, -⟩ := hk
      have hc := Mem.le.refl I1
      refine nc rfl rfl ?_
      refine WL.nil ?_
      exact hpost _ _ hc rfl _ (fun _ hd => by obtain rfl := Option.some.inj hd; exact ⟨rfl, trivial⟩)
    · intro Q ρ I1 H hI1 hk hpost
      obtain ⟨_, -⟩ := hk
      have hc := Mem.le.refl I1
      refine fa fl43_0 rfl rfl ?_
      refine WL.nil ?_
      exact hpost _ _ hc rfl _ (fun _ hd => by obtain rfl := Option.some.inj hd; exact ⟨rfl, trivial⟩)
    · intro Q ρ I1 H hI1 hk hpost
      obtain ⟨_, _, -⟩ := hk
      have hc := Mem.le.refl I1
      refine ixa (i := 1) at41 rfl rfl rfl rfl rfl rfl ?_
      refine WL.nil ?_
      exact hpost _ _ hc rfl _ (fun _ hd => by obtain rfl := Option.some.inj hd; exact ⟨rfl, trivial⟩)
    · intro Q ρ I1 H hI1 hk hpost
      obtain ⟨_, -⟩ := hk
      have hc := Mem.le.refl I1
      refine ld 0 na40 rfl rfl rfl rfl ?_
      refine WL.nil ?_
      exact hpost _ _ hc rfl _ (fun _ hd => by obtain rfl := Option.some.inj hd; exact ⟨rfl, trivial⟩)
    · intro Q ρ I1 H hI1 hk hpost
      have hc := Mem.le.refl I1
      refine mv rfl rfl ?_
      refine WL.nil ?_
      exact hpost _ _ hc rfl _ (fun _ hd => by obtain rfl := Option.some.inj hd; exact ⟨rfl, trivial⟩)
    · intro Q ρ I1 H hI1 hk hpost
      have hc := Mem.le.refl I1
      refine mv rfl rfl ?_
      refine WL.nil ?_
      exact hpost _ _ hc rfl _ (fun _ hd => by obtain rfl := Option.some.inj hd; exact ⟨rfl, trivial⟩)
    · intro Q ρ I1 H hI1 hk hpost
      obtain ⟨_, -⟩ := hk
      have hc := Mem.le.refl I1
      refine nc rfl rfl ?_
      refine WL.nil ?_
      exact hpost _ _ hc rfl _ (fun _ hd => by obtain rfl := Option.some.inj hd; exact ⟨rfl, trivial⟩)
    · intro Q ρ I1 H hI1 hk hpost
      obtain ⟨_, -⟩ := hk
      have hc := Mem.le.refl I1
      refine fa fl43_0 rfl rfl ?_
      refine WL.nil ?_
      exact hpost _ _ hc rfl _ (fun _ hd => by obtain rfl := Option.some.inj hd; exact ⟨rfl, trivial⟩)
    · intro Q ρ I1 H hI1 hk hpost
      obtain ⟨_, _, -⟩ := hk
      have hc := Mem.le.refl I1
      refine ixa (i := 1) at41 rfl rfl rfl rfl rfl rfl ?_
      refine WL.nil ?_
      exact hpost _ _ hc rfl _ (fun _ hd => by obtain rfl := Option.some.inj hd; exact ⟨rfl, trivial⟩)
    · intro Q ρ I1 H hI1 hk hpost
      obtain ⟨_, -⟩ := hk
      have hc := Mem.le.refl I1
      refine ld 0 na40 rfl rfl rfl rfl ?_
      refine WL.nil ?_
      exact hpost _ _ hc rfl _ (fun _ hd => by obtain rfl := Option.some.inj hd; exact ⟨rfl, trivial⟩)
    · intro Q ρ I1 H hI1 hk hpost
      have hc := Mem.le.refl I1
      refine mv rfl rfl ?_
      refine WL.nil ?_
      exact hpost _ _ hc rfl _ (fun _ hd => by obtain rfl := Option.some.inj hd; exact ⟨rfl, trivial⟩)
    · intro Q ρ I1 H hI1 hk hpost
      obtain ⟨_, _, -⟩ := hk
      have hc := Mem.le.refl I1
      refine ixo 0 et40 rfl rfl rfl k87 rfl (fun uv88 h89 => ?_)
      refine WL.nil ?_
      exact hpost _ _ hc h89 _ (fun _ hd => by obtain rfl := Option.some.inj hd; exact ⟨rfl, trivial⟩)
    · intro Q ρ I1 H hI1 hk hpost
      obtain ⟨k15, -⟩ := hk
      have hc := Mem.le.refl I1
      refine ldo (α := net_bag) 0 ya47 rfl k15 rfl e93 rfl (fun uv90 h91 => ?_)
      obtain ⟨a94, c95, rfl, h96⟩ := Rv.of_net_bag h91
      refine WL.nil ?_
      exact hpost _ _ hc ⟨_, _, rfl, h96⟩ _ (fun _ hd => by obtain rfl := Option.some.inj hd; exact ⟨rfl, trivial⟩)
    · intro Q ρ I1 H hI1 hk hpost
      obtain ⟨k16, -⟩ := hk
      have hc := Mem.le.refl I1
      refine WL.sub (r := [(34, (ρ 16))]) ?_ ⟨rfl, trivial⟩
      obtain ⟨a16_0, c16_0, ex16, h16_0⟩ := k16
      try rw [ex16]
      refine bs (os := [.tmp 34]) (xs := ([(⟨z92.b_, z92.spoilt_⟩ : net_bag)] : List net_bag)) et40 rfl rfl ⟨(Rv.mk_net_bag (⟨z92.b_, z92.spoilt_⟩ : net_bag) h16_0), trivial⟩ rfl rfl rfl rfl (fun a97 c98 => ?_)
      refine WL.nil ?_
      exact hpost _ _ hc trivial _ (fun _ hd => by obtain rfl := Option.some.inj hd; exact ⟨rfl, trivial⟩)
    · intro Q ρ I1 H hI1 hk hpost
      obtain ⟨_, _, -⟩ := hk
      have hc := Mem.le.refl I1
      refine ap et40 rfl rfl ((OV.rd 1 rfl)) k100 rfl (fun a101 c102 => ?_)
      refine WL.ren (Option.some.inj e104) ?_
      refine WL.front 1 ?_
      refine WL.front 1 ?_
      refine WL.nil ?_
      exact hpost _ _ hc trivial _ (fun _ hd => by obtain rfl := Option.some.inj hd; exact ⟨rfl, trivial⟩)
    · intro Q ρ I1 H hI1 hk hpost
      obtain ⟨_, -⟩ := hk
      have hc := Mem.le.refl I1
      refine nc rfl rfl ?_
      refine WL.nil ?_
      exact hpost _ _ hc rfl _ (fun _ hd => by obtain rfl := Option.some.inj hd; exact ⟨rfl, trivial⟩)
    · intro Q ρ I1 H hI1 hk hpost
      obtain ⟨_, -⟩ := hk
      have hc := Mem.le.refl I1
      refine fa fl43_0 rfl rfl ?_
      refine WL.nil ?_
      exact hpost _ _ hc rfl _ (fun _ hd => by obtain rfl := Option.some.inj hd; exact ⟨rfl, trivial⟩)
    · intro Q ρ I1 H hI1 hk hpost
      obtain ⟨_, _, -⟩ := hk
      have hc := Mem.le.refl I1
      refine ixa (i := 1) at41 rfl rfl rfl rfl rfl rfl ?_
      refine WL.nil ?_
      exact hpost _ _ hc rfl _ (fun _ hd => by obtain rfl := Option.some.inj hd; exact ⟨rfl, trivial⟩)
    · intro Q ρ I1 H hI1 hk hpost
      obtain ⟨_, _, -⟩ := hk
      have hc := Mem.le.refl I1
      refine WL.front 1 ?_
      refine WL.hd (fun a105 c106 e107 => ?_)
      refine WL.front 1 ?_
      refine st (C' := #[(.slice a81 s28.l_0.length c82), (ρ 18)]) sz40 rfl rfl (sl_one e107) rfl rfl ?_
      refine WL.front 1 ?_
      refine WL.front 1 ?_
      refine WL.nil ?_
      exact hpost undef _ hc trivial _ (fun _ hd => by cases hd)
    rintro ρ J108 hJ109 -
    refine WX.sub (r := []) ?_ trivial
    refine WX.is (H := OV 47 (ρ 17) ([(⟨z92.b_, z92.spoilt_⟩ : net_bag)] : List net_bag) :: OV 47 (ρ 18) x103 :: bl g0 #[(.slice a81 s28.l_0.length c82), (ρ 18)] 43 :: OV 47 (.slice a81 s28.l_0.length c82) s28.l_0 :: G) rfl ?_
    have hI := hI.trans hJ109
    refine WX.front 1 ?_
    generalize ρ 18 = uv110 at *; refine WX.hd (fun a111 c112 e => ?_); subst e
    refine WX.then_ ?_
    refine WC.seq ?_
    refine WC.region ?_
    refine asg rfl rfl ?_
    refine WL.del 1 ?_
    refine WL.next ?_
    refine WC.ret ?_
    refine WX.front 2 ?_
    refine WX.front 2 ?_
    refine WX.shut_net_Net (⟨s28.l_0, x103⟩ : net_Net)  ?_
    cases h
    exact ret1 Try.results10 rfl hI ⟨rfl, rfl⟩
  cases h
theorem W12 {I : Mem} {G : List Asn} {p0 : net_Net} {p1 : Int} {p2 : Int} {p3 : Int} {p4 : UInt32} {r : Bool × net_Net} (h : net_Net_Spoil p0 p1 p2 p3 p4 = some r) {g0 : Nat} :
    CallsS Try.prog 12 #[.pointer (some ⟨g0, 0, none⟩), .int .i64 p1, .int .i64 p2, .int .i64 p3, .int .u32 (p4.toNat : Int)] I (Ob_net_Net g0 p0 :: G) (fun v J G' => v = .bool r.1 ∧ Ob_net_Net g0 (r.2) :: G = G') := by
  refine CallsS.enter Try.func12 rfl Try.ntmps12 rfl (fun w0 => ?_)
  have hI := Mem.le.refl I
  unfold net_Net_Spoil at h
  refine WC.seq ?_
  refine WC.region ?_
  refine asg rfl rfl ?_
  refine WL.next ?_
  refine WC.seq ?_
  refine WC.seq ?_
  obtain ⟨j83, hj83, h⟩ := bnd h
  refine WC.joinQ (σ := net_Net × Int × Bool) (fun (s80, x81, x82) => [(0, (.pointer (some ⟨g0, 0, none⟩))), (1, (.int .i64 x81)), (2, (.int .i64 p2)), (3, (.int .i64 p3)), (4, (.int .u32 (p4.toNat : Int))), (28, (.bool x82))]) (fun (s80, x81, x82) => Ob_net_Net g0 s80 :: G) (fun (s80, x81, x82) J => (s80, x81, x82) = j83) (fun kj83 => ?_) ?_
  · skip
    have lj83 := Mem.le.refl I
    refine WC.region ?_
    refine mv rfl rfl ?_
    refine mv rfl rfl ?_
    refine mv rfl rfl ?_
    obtain ⟨⟨x84, s85⟩, e86, hj83⟩ := bnd hj83
    refine call cl17 rfl rfl (W17 e86) (fun _ J87 _ hJ88 q89 => ?_)
    have hI := hI.trans hJ88
    have lj83 := lj83.trans hJ88
    obtain ⟨rfl, rfl⟩ := q89
    refine nt rfl rfl ?_
    refine mv rfl rfl ?_
    rcases spl hj83 with ⟨k90, hj83⟩ | ⟨k90, hj83⟩
    · skip
      refine WL.rb 17 rfl (bt1n k90) ?_
      refine WL.on rfl rfl ?_
      refine mv rfl rfl ?_
      refine WL.on rfl rfl ?_
      refine mv rfl rfl ?_
      refine WL.on rfl rfl ?_
      refine nc rfl rfl ?_
      refine WL.on rfl rfl ?_
      refine fa fl43_0 rfl rfl ?_
      rcases spl hj83 with ⟨k91, hj83⟩ | ⟨k91, hj83⟩
      · skip
        refine WL.rb 1 rfl (congrArg (Value.int .i64) k91) ?_
        refine WL.rb 13 rfl (congrArg (Value.int .i64) k91) ?_
        refine WL.rb 19 rfl (congrArg (Value.int .i64) k91) ?_
        refine WL.on rfl rfl ?_
        refine ixa (i := 0) at41 rfl rfl rfl rfl rfl rfl ?_
        refine WL.on rfl rfl ?_
        refine WL.open_net_Net (fun a92 c93 a95 c96  => ?_)
        refine ld 0 na40 rfl rfl rfl rfl ?_
        refine WL.on rfl rfl ?_
        refine mv rfl rfl ?_
        refine WL.on rfl rfl ?_
        obtain ⟨k98, hj83⟩ := chk hj83
        refine ixo 1 et40 rfl rfl rfl k98 rfl (fun uv99 h100 => ?_)
        refine WL.on rfl rfl ?_
        refine faa fl47_1 rfl h100 rfl (fun uv101 h102 => ?_)
        refine WL.on rfl rfl ?_
        obtain ⟨z105, e106, hj83⟩ := bnd hj83
        refine ldof (α := net_bag) (β := Bool) 1 na4 rfl h102 rfl e106 fp47_1 rfl (fun uv103 h104 => ?_)
        obtain rfl := h104.bool
        refine pkF rfl rfl rfl ?_
        refine WL.nil ?_
        refine WX.front 2 ?_
        refine WX.front 2 ?_
        refine WX.front 2 ?_
        refine WX.shut_net_Net (⟨s85.l_0, s85.l_1⟩ : net_Net)  ?_
        exact (kj83 ⟨(⟨s85.l_0, s85.l_1⟩ : net_Net), 0, z105.spoilt_⟩ _ lj83 (Option.some.inj hj83)).sub ⟨rfl, rfl, rfl, rfl, rfl, rfl, trivial⟩
      rcases spl hj83 with ⟨k107, hj83⟩ | ⟨k107, hj83⟩
      · skip
        refine WL.rb 1 rfl (congrArg (Value.int .i64) k107) ?_
        refine WL.rb 13 rfl (congrArg (Value.int .i64) k107) ?_
        refine WL.rb 19 rfl (congrArg (Value.int .i64) k107) ?_
        refine WL.on rfl rfl ?_
        refine ixa (i := 1) at41 rfl rfl rfl rfl rfl rfl ?_
        refine WL.on rfl rfl ?_
        refine WL.open_net_Net (fun a108 c109 a111 c112  => ?_)
        refine ld 0 na40 rfl rfl rfl rfl ?_
        refine WL.on rfl rfl ?_
        refine mv rfl rfl ?_
        refine WL.on rfl rfl ?_
        obtain ⟨k114, hj83⟩ := chk hj83
        refine ixo 2 et40 rfl rfl rfl k114 rfl (fun uv115 h116 => ?_)
        refine WL.on rfl rfl ?_
        refine faa fl47_1 rfl h116 rfl (fun uv117 h118 => ?_)
        refine WL.on rfl rfl ?_
        obtain ⟨z121, e122, hj83⟩ := bnd hj83
        refine ldof (α := net_bag) (β := Bool) 2 na4 rfl h118 rfl e122 fp47_1 rfl (fun uv119 h120 => ?_)
        obtain rfl := h120.bool
        refine pkF rfl rfl rfl ?_
        refine WL.nil ?_
        refine WX.front 2 ?_
        refine WX.front 2 ?_
        refine WX.front 2 ?_
        refine WX.shut_net_Net (⟨s85.l_0, s85.l_1⟩ : net_Net)  ?_
        exact (kj83 ⟨(⟨s85.l_0, s85.l_1⟩ : net_Net), 1, z121.spoilt_⟩ _ lj83 (Option.some.inj hj83)).sub ⟨rfl, rfl, rfl, rfl, rfl, rfl, trivial⟩
      cases hj83
    refine WL.rb 17 rfl (bf1n k90) ?_
    refine WL.no rfl rfl rfl rfl ?_
    refine WL.no rfl rfl rfl rfl ?_
    refine WL.no rfl rfl rfl rfl ?_
    refine WL.no rfl rfl rfl rfl ?_
    refine WL.no rfl rfl rfl rfl ?_
    refine WL.no rfl rfl rfl rfl ?_
    refine WL.no rfl rfl rfl rfl ?_
    refine WL.no rfl rfl rfl rfl ?_
    refine WL.no rfl rfl rfl rfl ?_
    refine WL.no rfl rfl rfl rfl ?_
    refine pkT rfl rfl rfl ?_
    refine WL.nil ?_
    exact (kj83 ⟨s85, p1, true⟩ _ lj83 (Option.some.inj hj83)).sub ⟨rfl, rfl, rfl, rfl, rfl, rfl, trivial⟩
  rintro ⟨s80, x81, x82⟩ J123 hJ124 rfl
  have hI := hI.trans hJ124
  refine WX.then_ ?_
  refine WC.iteb rfl h (fun k125 h => ?_) (fun k125 h => ?_)
  · skip
    refine WC.seq ?_
    refine WC.region ?_
    refine asg rfl rfl ?_
    refine WL.next ?_
    refine WC.ret ?_
    refine WX.then_ret ?_
    cases h
    exact ret1 Try.results12 rfl hI ⟨rfl, rfl⟩
  refine WC.skip ?_
  refine WX.then_ ?_
  refine WC.seq ?_
  refine WC.region ?_
  refine mv rfl rfl ?_
  refine mv rfl rfl ?_
  refine nc rfl rfl ?_
  refine fa fl43_0 rfl rfl ?_
  rcases spl h with ⟨k126, h⟩ | ⟨k126, h⟩
  · skip
    refine WL.rb 1 rfl (congrArg (Value.int .i64) k126) ?_
    refine WL.rb 30 rfl (congrArg (Value.int .i64) k126) ?_
    refine ixa (i := 0) at41 rfl rfl rfl rfl rfl rfl ?_
    refine WL.open_net_Net (fun a127 c128 a130 c131  => ?_)
    refine ld 0 na40 rfl rfl rfl rfl ?_
    refine mv rfl rfl ?_
    obtain ⟨k133, h⟩ := chk h
    refine ixo 1 et40 rfl rfl rfl k133 rfl (fun uv134 h135 => ?_)
    refine faa fl47_0 rfl h135 rfl (fun uv136 h137 => ?_)
    obtain ⟨z140, e141, h⟩ := bnd h
    refine ldof (α := net_bag) (β := List UInt8) 1 na27 rfl h137 rfl e141 fp47_0 rfl (fun uv138 h139 => ?_)
    replace h139 := h139.sl; obtain ⟨a142, c143, rfl⟩ := h139.hd
    refine mv rfl rfl ?_
    refine mv rfl rfl ?_
    obtain ⟨x144, e145, h⟩ := bnd h
    refine call cl20 rfl rfl (W20 e145 h139) (fun _ J146 _ hJ147 q148 => ?_)
    have hI := hI.trans hJ147
    replace h139 := h139.up hJ147
    obtain ⟨a149, c150, rfl, rfl⟩ := q148
    refine asg rfl rfl ?_
    refine WL.next ?_
    refine WC.seq ?_
    refine WC.seq ?_
    refine WC.region ?_
    refine mv rfl rfl ?_
    refine mv rfl rfl ?_
    refine mv rfl rfl ?_
    refine nc rfl rfl ?_
    refine fa fl43_0 rfl rfl ?_
    refine ixa (i := 0) at41 rfl rfl rfl rfl rfl rfl ?_
    refine ld 1 na40 rfl rfl rfl rfl ?_
    refine mv rfl rfl ?_
    obtain ⟨k152, h⟩ := chk h
    refine ixo 2 et40 rfl rfl rfl k152 rfl (fun uv153 h154 => ?_)
    refine faa fl47_0 rfl h154 rfl (fun uv155 h156 => ?_)
    obtain ⟨z159, e160, h⟩ := bnd h
    refine ldof (α := net_bag) (β := List UInt8) 2 na27 rfl h156 rfl e160 fp47_0 rfl (fun uv157 h158 => ?_)
    replace h158 := h158.sl; obtain ⟨a161, c162, rfl⟩ := h158.hd
    refine WL.freeze (fun J163 hJ164 h165 => ?_)
    have hI := hI.trans hJ164
    replace h158 := h158.up hJ164
    obtain ⟨x166, e167, h⟩ := bnd h
    refine call cl21 rfl rfl (W21 e167 h165 h158) (fun _ J168 _ hJ169 q170 => ?_)
    have hI := hI.trans hJ169
    replace h165 := h165.up hJ169; replace h158 := h158.up hJ169
    obtain ⟨rfl, rfl⟩ := q170
    refine WL.next ?_
    refine WC.iteb rfl h (fun k171 h => ?_) (fun k171 h => ?_)
    · skip
      refine WC.seq ?_
      refine WC.region ?_
      refine asg rfl rfl ?_
      refine WL.next ?_
      refine WC.ret ?_
      refine WX.then_ret ?_
      refine WX.front 2 ?_
      refine WX.front 2 ?_
      refine WX.front 2 ?_
      refine WX.shut_net_Net (⟨s80.l_0, s80.l_1⟩ : net_Net)  ?_
      cases h
      exact ret1 Try.results12 rfl hI ⟨rfl, rfl⟩
    refine WC.skip ?_
    refine WX.then_ ?_
    refine WC.seq ?_
    refine WC.region ?_
    refine mv rfl rfl ?_
    refine mv rfl rfl ?_
    refine nc rfl rfl ?_
    refine fa fl43_0 rfl rfl ?_
    refine ixa (i := 0) at41 rfl rfl rfl rfl rfl rfl ?_
    refine ld 0 na40 rfl rfl rfl rfl ?_
    refine mv rfl rfl ?_
    refine mv rfl rfl ?_
    refine bu bt47 rfl rfl rfl ?_
    obtain ⟨k172, h⟩ := chk h
    refine ixo 1 et40 rfl rfl rfl k172 rfl (fun uv173 h174 => ?_)
    refine WL.front 1 ?_
    obtain ⟨x175, e176, h⟩ := bnd h
    refine sto2 (α := net_bag) (z := (⟨x144, true⟩ : net_bag)) sz47 rfl rfl h174 (ilt k172) (Rv.mk_net_bag (⟨x144, true⟩ : net_bag) h165) (Option.some.inj e176) ?_
    refine WL.rb 59 rfl (u := (.slice a127 x175.length c128)) (by rw [← Option.some.inj e176, List.length_set]; first | done | rfl) ?_
    refine WL.is (H := OV 47 (.slice a127 x175.length c128) x175 :: bl g0 #[(.slice a127 x175.length c128), (.slice a130 s80.l_1.length c131)] 43 :: OV 47 (.slice a130 s80.l_1.length c131) s80.l_1 :: G) (by rw [← Option.some.inj e176, List.length_set]; first | done | rfl) ?_
    refine WL.next ?_
    refine WC.seq ?_
    refine WC.region ?_
    refine asg rfl rfl ?_
    refine WL.next ?_
    refine WC.ret ?_
    refine WX.front 2 ?_
    refine WX.front 1 ?_
    refine WX.front 2 ?_
    refine WX.shut_net_Net (⟨x175, s80.l_1⟩ : net_Net)  ?_
    cases h
    exact ret1 Try.results12 rfl hI ⟨rfl, rfl⟩
  rcases spl h with ⟨k177, h⟩ | ⟨k177, h⟩
  · skip
    refine WL.rb 1 rfl (congrArg (Value.int .i64) k177) ?_
    refine WL.rb 30 rfl (congrArg (Value.int .i64) k177) ?_
    refine ixa (i := 1) at41 rfl rfl rfl rfl rfl rfl ?_
    refine WL.open_net_Net (fun a178 c179 a181 c182  => ?_)
    refine ld 0 na40 rfl rfl rfl rfl ?_
    refine mv rfl rfl ?_
    obtain ⟨k184, h⟩ := chk h
    refine ixo 2 et40 rfl rfl rfl k184 rfl (fun uv185 h186 => ?_)
    refine faa fl47_0 rfl h186 rfl (fun uv187 h188 => ?_)
    obtain ⟨z191, e192, h⟩ := bnd h
    refine ldof (α := net_bag) (β := List UInt8) 2 na27 rfl h188 rfl e192 fp47_0 rfl (fun uv189 h190 => ?_)
    replace h190 := h190.sl; obtain ⟨a193, c194, rfl⟩ := h190.hd
    refine mv rfl rfl ?_
    refine mv rfl rfl ?_
    obtain ⟨x195, e196, h⟩ := bnd h
    refine call cl20 rfl rfl (W20 e196 h190) (fun _ J197 _ hJ198 q199 => ?_)
    have hI := hI.trans hJ198
    replace h190 := h190.up hJ198
    obtain ⟨a200, c201, rfl, rfl⟩ := q199
    refine asg rfl rfl ?_
    refine WL.next ?_
    refine WC.seq ?_
    refine WC.seq ?_
    refine WC.region ?_
    refine mv rfl rfl ?_
    refine mv rfl rfl ?_
    refine mv rfl rfl ?_
    refine nc rfl rfl ?_
    refine fa fl43_0 rfl rfl ?_
    refine ixa (i := 1) at41 rfl rfl rfl rfl rfl rfl ?_
    refine ld 1 na40 rfl rfl rfl rfl ?_
    refine mv rfl rfl ?_
    obtain ⟨k203, h⟩ := chk h
    refine ixo 3 et40 rfl rfl rfl k203 rfl (fun uv204 h205 => ?_)
    refine faa fl47_0 rfl h205 rfl (fun uv206 h207 => ?_)
    obtain ⟨z210, e211, h⟩ := bnd h
    refine ldof (α := net_bag) (β := List UInt8) 3 na27 rfl h207 rfl e211 fp47_0 rfl (fun uv208 h209 => ?_)
    replace h209 := h209.sl; obtain ⟨a212, c213, rfl⟩ := h209.hd
    refine WL.freeze (fun J214 hJ215 h216 => ?_)
    have hI := hI.trans hJ215
    replace h209 := h209.up hJ215
    obtain ⟨x217, e218, h⟩ := bnd h
    refine call cl21 rfl rfl (W21 e218 h216 h209) (fun _ J219 _ hJ220 q221 => ?_)
    have hI := hI.trans hJ220
    replace h216 := h216.up hJ220; replace h209 := h209.up hJ220
    obtain ⟨rfl, rfl⟩ := q221
    refine WL.next ?_
    refine WC.iteb rfl h (fun k222 h => ?_) (fun k222 h => ?_)
    · skip
      refine WC.seq ?_
      refine WC.region ?_
      refine asg rfl rfl ?_
      refine WL.next ?_
      refine WC.ret ?_
      refine WX.then_ret ?_
      refine WX.front 2 ?_
      refine WX.front 2 ?_
      refine WX.front 2 ?_
      refine WX.shut_net_Net (⟨s80.l_0, s80.l_1⟩ : net_Net)  ?_
      cases h
      exact ret1 Try.results12 rfl hI ⟨rfl, rfl⟩
    refine WC.skip ?_
    refine WX.then_ ?_
    refine WC.seq ?_
    refine WC.region ?_
    refine mv rfl rfl ?_
    refine mv rfl rfl ?_
    refine nc rfl rfl ?_
    refine fa fl43_0 rfl rfl ?_
    refine ixa (i := 1) at41 rfl rfl rfl rfl rfl rfl ?_
    refine ld 0 na40 rfl rfl rfl rfl ?_
    refine mv rfl rfl ?_
    refine mv rfl rfl ?_
    refine bu bt47 rfl rfl rfl ?_
    obtain ⟨k223, h⟩ := chk h
    refine ixo 2 et40 rfl rfl rfl k223 rfl (fun uv224 h225 => ?_)
    refine WL.front 2 ?_
    obtain ⟨x226, e227, h⟩ := bnd h
    refine sto2 (α := net_bag) (z := (⟨x195, true⟩ : net_bag)) sz47 rfl rfl h225 (ilt k223) (Rv.mk_net_bag (⟨x195, true⟩ : net_bag) h216) (Option.some.inj e227) ?_
    refine WL.rb 59 rfl (u := (.slice a181 x226.length c182)) (by rw [← Option.some.inj e227, List.length_set]; first | done | rfl) ?_
    refine WL.is (H := OV 47 (.slice a181 x226.length c182) x226 :: bl g0 #[(.slice a178 s80.l_0.length c179), (.slice a181 x226.length c182)] 43 :: OV 47 (.slice a178 s80.l_0.length c179) s80.l_0 :: G) (by rw [← Option.some.inj e227, List.length_set]; first | done | rfl) ?_
    refine WL.next ?_
    refine WC.seq ?_
    refine WC.region ?_
    refine asg rfl rfl ?_
    refine WL.next ?_
    refine WC.ret ?_
    refine WX.front 2 ?_
    refine WX.front 2 ?_
    refine WX.shut_net_Net (⟨s80.l_0, x226⟩ : net_Net)  ?_
    cases h
    exact ret1 Try.results12 rfl hI ⟨rfl, rfl⟩
  cases h
theorem W13 {I : Mem} {G : List Asn} {r : Bool} (h : haulierlaw20_wakes = some r) :
    CallsS Try.prog 13 #[] I (G) (fun v J G' => v = .bool r ∧ G = G') := by
  refine CallsS.enter Try.func13 rfl Try.ntmps13 rfl (fun w0 => ?_)
  have hI := Mem.le.refl I
  unfold haulierlaw20_wakes at h
  refine WC.seq ?_
  refine WC.region ?_
  refine asg rfl rfl ?_
  refine WL.next ?_
  refine WC.seq ?_
  refine WC.region ?_
  obtain ⟨s1, e2, h⟩ := bnd h
  refine call cl5 rfl rfl (W5 e2) (fun _ J3 _ hJ4 q5 => ?_)
  have hI := hI.trans hJ4
  obtain ⟨g6, rfl, rfl⟩ := q5
  refine asg rfl rfl ?_
  refine WL.next ?_
  refine WC.seq ?_
  refine WC.seq ?_
  obtain ⟨j50, hj50, h⟩ := bnd h
  refine WC.joinQ (σ := net_Net × Bool) (fun (s48, x49) => [(1, (.pointer (some ⟨g6, 0, none⟩))), (22, (.bool x49))]) (fun (s48, x49) => Ob_net_Net g6 s48 :: G) (fun (s48, x49) J => (s48, x49) = j50) (fun kj50 => ?_) ?_
  · skip
    have lj50 := Mem.le.refl J3
    refine WC.region ?_
    refine mv rfl rfl ?_
    refine pe pt22 rfl rfl rfl ?_
    refine mv rfl rfl ?_
    refine WL.on rfl rfl ?_
    refine mv rfl rfl ?_
    refine WL.on rfl rfl ?_
    obtain ⟨⟨x51, s52⟩, e53, hj50⟩ := bnd hj50
    refine call cl11 rfl rfl (W11 e53) (fun _ J54 _ hJ55 q56 => ?_)
    have hI := hI.trans hJ55
    have lj50 := lj50.trans hJ55
    obtain ⟨rfl, rfl⟩ := q56
    refine WL.on rfl rfl ?_
    refine ne rfl rfl rfl ?_
    refine pkF rfl rfl rfl ?_
    refine mv rfl rfl ?_
    rcases spl hj50 with ⟨k57, hj50⟩ | ⟨k57, hj50⟩
    · skip
      refine WL.rb 12 rfl (bT k57) ?_
      refine WL.no rfl rfl rfl rfl ?_
      refine WL.no rfl rfl rfl rfl ?_
      refine WL.no rfl rfl rfl rfl ?_
      refine WL.no rfl rfl rfl rfl ?_
      refine pkT rfl rfl rfl ?_
      refine mv rfl rfl ?_
      refine WL.no rfl rfl rfl rfl ?_
      refine WL.no rfl rfl rfl rfl ?_
      refine WL.no rfl rfl rfl rfl ?_
      refine pkT rfl rfl rfl ?_
      refine WL.nil ?_
      exact (kj50 ⟨s52, true⟩ _ lj50 (Option.some.inj hj50)).sub ⟨rfl, rfl, trivial⟩
    refine WL.rb 12 rfl (bF k57) ?_
    refine WL.on rfl rfl ?_
    refine mv rfl rfl ?_
    refine WL.on rfl rfl ?_
    refine bu bt29 rfl rfl rfl ?_
    refine WL.on rfl rfl ?_
    obtain ⟨⟨x58, s59⟩, e60, hj50⟩ := bnd hj50
    refine call cl7 rfl rfl (W7 e60 (IV.nil _ : IV _ _ ([] : List UInt8))) (fun _ J61 _ hJ62 q63 => ?_)
    have hI := hI.trans hJ62
    have lj50 := lj50.trans hJ62
    obtain ⟨rfl, rfl⟩ := q63
    refine WL.on rfl rfl ?_
    refine ne rfl rfl rfl ?_
    refine pkF rfl rfl rfl ?_
    refine mv rfl rfl ?_
    rcases spl hj50 with ⟨k64, hj50⟩ | ⟨k64, hj50⟩
    · skip
      refine WL.rb 18 rfl (bT k64) ?_
      refine WL.no rfl rfl rfl rfl ?_
      refine WL.no rfl rfl rfl rfl ?_
      refine WL.no rfl rfl rfl rfl ?_
      refine pkT rfl rfl rfl ?_
      refine WL.nil ?_
      exact (kj50 ⟨s59, true⟩ _ lj50 (Option.some.inj hj50)).sub ⟨rfl, rfl, trivial⟩
    refine WL.rb 18 rfl (bF k64) ?_
    refine WL.on rfl rfl ?_
    refine mv rfl rfl ?_
    refine WL.on rfl rfl ?_
    obtain ⟨⟨x65, s66⟩, e67, hj50⟩ := bnd hj50
    refine call cl11 rfl rfl (W11 e67) (fun _ J68 _ hJ69 q70 => ?_)
    have hI := hI.trans hJ69
    have lj50 := lj50.trans hJ69
    obtain ⟨rfl, rfl⟩ := q70
    refine WL.on rfl rfl ?_
    refine ne rfl rfl rfl ?_
    refine pkF rfl rfl rfl ?_
    refine WL.nil ?_
    exact (kj50 ⟨s66, (decide (x65 ≠ 1))⟩ _ lj50 (Option.some.inj hj50)).sub ⟨rfl, rfl, trivial⟩
  rintro ⟨s48, x49⟩ J71 hJ72 rfl
  have hI := hI.trans hJ72
  refine WX.then_ ?_
  refine WC.iteb rfl h (fun k73 h => ?_) (fun k73 h => ?_)
  · skip
    refine WC.seq ?_
    refine WC.region ?_
    refine asg rfl rfl ?_
    refine WL.del 0 ?_
    refine WL.next ?_
    refine WC.ret ?_
    refine WX.then_ret ?_
    cases h
    exact ret1 Try.results13 rfl hI ⟨rfl, rfl⟩
  refine WC.skip ?_
  refine WX.then_ ?_
  refine WC.seq ?_
  refine WC.region ?_
  refine mv rfl rfl ?_
  obtain ⟨⟨x74, x75, s76⟩, e77, h⟩ := bnd h
  refine call cl9 rfl rfl (W9 e77) (fun _ J78 _ hJ79 q80 => ?_)
  have hI := hI.trans hJ79
  obtain ⟨a81, c82, rfl, rfl⟩ := q80
  refine mv rfl rfl ?_
  refine ex rfl rfl rfl ?_
  refine ex rfl rfl rfl ?_
  refine asg rfl rfl ?_
  refine asg rfl rfl ?_
  refine WL.next ?_
  refine WC.seq ?_
  refine WC.region ?_
  refine mv rfl rfl ?_
  refine mv rfl rfl ?_
  rcases spl h with ⟨k84, h⟩ | ⟨k84, h⟩
  · skip
    refine WL.rb 29 rfl (bt1 k84) ?_
    refine WL.on rfl rfl ?_
    refine mv rfl rfl ?_
    refine WL.on rfl rfl ?_
    refine ln et27 rfl (OV.rd 0 rfl) rfl ?_
    refine WL.on rfl rfl ?_
    refine eq rfl rfl rfl ?_
    refine pkT rfl rfl rfl ?_
    refine mv rfl rfl ?_
    rcases spl h with ⟨k85, h⟩ | ⟨k85, h⟩
    · skip
      refine WL.rb 34 rfl (bT k85) ?_
      refine WL.on rfl rfl ?_
      refine mv rfl rfl ?_
      refine WL.on rfl rfl ?_
      refine WL.front 1 ?_
      obtain ⟨⟨x86, s87⟩, e88, h⟩ := bnd h
      refine call cl11 rfl rfl (W11 e88) (fun _ J89 _ hJ90 q91 => ?_)
      have hI := hI.trans hJ90
      obtain ⟨rfl, rfl⟩ := q91
      refine WL.on rfl rfl ?_
      refine eq rfl rfl rfl ?_
      refine pkT rfl rfl rfl ?_
      refine asg rfl rfl ?_
      refine WL.del 0 ?_
      refine WL.del 0 ?_
      refine WL.next ?_
      refine WC.ret ?_
      cases h
      exact ret1 Try.results13 rfl hI ⟨rfl, rfl⟩
    refine WL.rb 34 rfl (bF k85) ?_
    refine WL.no rfl rfl rfl rfl ?_
    refine WL.no rfl rfl rfl rfl ?_
    refine WL.no rfl rfl rfl rfl ?_
    refine pkF rfl rfl rfl ?_
    refine asg rfl rfl ?_
    refine WL.del 0 ?_
    refine WL.del 0 ?_
    refine WL.next ?_
    refine WC.ret ?_
    cases h
    exact ret1 Try.results13 rfl hI ⟨rfl, rfl⟩
  refine WL.rb 29 rfl (bf1 k84) ?_
  refine WL.no rfl rfl rfl rfl ?_
  refine WL.no rfl rfl rfl rfl ?_
  refine WL.no rfl rfl rfl rfl ?_
  refine pkF rfl rfl rfl ?_
  refine mv rfl rfl ?_
  refine WL.no rfl rfl rfl rfl ?_
  refine WL.no rfl rfl rfl rfl ?_
  refine WL.no rfl rfl rfl rfl ?_
  refine pkF rfl rfl rfl ?_
  refine asg rfl rfl ?_
  refine WL.del 0 ?_
  refine WL.del 0 ?_
  refine WL.next ?_
  refine WC.ret ?_
  cases h
  exact ret1 Try.results13 rfl hI ⟨rfl, rfl⟩
theorem W3 {I : Mem} {G : List Asn} {p0 : Int} {r : Bool} (h : haulierlaw20_NetBounds p0 = some r) :
    CallsS Try.prog 3 #[.int .i64 p0] I (G) (fun v J G' => v = .bool r ∧ G = G') := by
  refine CallsS.enter Try.func3 rfl Try.ntmps3 rfl (fun w0 => ?_)
  have hI := Mem.le.refl I
  unfold haulierlaw20_NetBounds at h
  refine WC.seq ?_
  refine WC.region ?_
  refine asg rfl rfl ?_
  refine WL.next ?_
  refine WC.seq ?_
  refine WC.region ?_
  obtain ⟨s1, e2, h⟩ := bnd h
  refine call cl5 rfl rfl (W5 e2) (fun _ J3 _ hJ4 q5 => ?_)
  have hI := hI.trans hJ4
  obtain ⟨g6, rfl, rfl⟩ := q5
  refine asg rfl rfl ?_
  refine WL.next ?_
  refine WC.seq ?_
  refine WC.seq ?_
  refine WC.region ?_
  refine mv rfl rfl ?_
  refine pe pt22 rfl rfl rfl ?_
  refine WL.next ?_
  refine WC.cond rfl (fun k => by cases k) (fun _ => ?_)
  refine WC.skip ?_
  refine WX.then_ ?_
  refine WC.seq ?_
  refine WC.region ?_
  refine mv rfl rfl ?_
  obtain ⟨x8, e9, h⟩ := bnd h
  refine call cl6 rfl rfl (W6 e9) (fun _ J10 _ hJ11 q12 => ?_)
  have hI := hI.trans hJ11
  obtain ⟨rfl, rfl⟩ := q12
  refine ad rfl rfl rfl ?_
  refine asg rfl rfl ?_
  refine WL.next ?_
  refine WC.seq ?_
  refine WC.seq ?_
  refine WC.region ?_
  refine asg rfl rfl ?_
  refine WL.next ?_
  obtain ⟨j45, hj45, h⟩ := bnd h
  refine WC.joinQ (σ := net_Net) (fun s44 => [(0, (.int .i64 (w64 (2 + x8)))), (3, (.pointer (some ⟨g6, 0, none⟩)))]) (fun s44 => Ob_net_Net g6 s44 :: G) (fun s44 J => Sum.inr s44 = j45) (fun kj45 => ?_) ?_
  · skip
    have lj45 := Mem.le.refl J10
    refine WC.block ?_
    refine WC.loop (σ := net_Net × Int) (fun k (s56, x57) => haulierlaw20_NetBounds_l0 k s56 x57) _ (fun (s56, x57) => [(0, (.int .i64 (w64 (2 + x8)))), (3, (.pointer (some ⟨g6, 0, none⟩))), (4, (.int .i64 x57))]) (fun (s56, x57) => Ob_net_Net g6 s56 :: G) (fun (s56, x57) J => True) (fun ⟨s56, x57⟩ => rfl) bigN ⟨s1, 0⟩ hj45 trivial ⟨rfl, rfl, rfl, trivial⟩ rfl ?_
    rintro k0 ih0 ⟨s56, x57⟩ J67 hJ68 - hj45
    change haulierlaw20_NetBounds_l0 (k0 + 1) s56 x57 = _ at hj45
    rw [haulierlaw20_NetBounds_l0] at hj45
    have hI := hI.trans hJ68
    have lj45 := lj45.trans hJ68
    have ll0 := hJ68
    refine WC.seq ?_
    refine WC.seq ?_
    refine WC.region ?_
    refine mv rfl rfl ?_
    refine lt rfl rfl rfl ?_
    refine WL.next ?_
    refine WC.ite rfl hj45 (fun k69 hj45 => ?_) (fun k69 hj45 => ?_)
    · skip
      refine WC.skip ?_
      refine WX.then_ ?_
      refine WC.seq ?_
      refine WC.block ?_
      refine WC.seq ?_
      refine WC.region ?_
      refine mv rfl rfl ?_
      refine mv rfl rfl ?_
      refine bu bt29 rfl rfl rfl ?_
      obtain ⟨⟨x70, s71⟩, e72, hj45⟩ := bnd hj45
      refine call cl7 rfl rfl (W7 e72 (IV.nil _ : IV _ _ ([] : List UInt8))) (fun _ J73 _ hJ74 q75 => ?_)
      have hI := hI.trans hJ74
      have lj45 := lj45.trans hJ74
      have ll0 := ll0.trans hJ74
      obtain ⟨rfl, rfl⟩ := q75
      refine ne rfl rfl rfl ?_
      refine WL.next ?_
      refine WC.ite rfl hj45 (fun k76 hj45 => ?_) (fun k76 hj45 => ?_)
      · skip
        refine WC.seq ?_
        refine WC.region ?_
        refine asg rfl rfl ?_
        refine WL.del 0 ?_
        refine WL.next ?_
        refine WC.ret ?_
        refine WX.block_ret ?_
        refine WX.then_ret ?_
        refine WX.then_ret ?_
        refine WX.block_ret ?_
        refine WX.then_ret ?_
        cases hj45
        replace h : some _ = some _ := h
        cases h
        exact ret1 Try.results3 rfl hI ⟨rfl, rfl⟩
      refine WC.skip ?_
      refine WX.block_normal ?_
      refine WX.then_ ?_
      refine WC.region ?_
      refine mv rfl rfl ?_
      refine ad rfl rfl rfl ?_
      refine asg rfl rfl ?_
      refine WL.nil ?_
      refine WX.round ?_
      exact (ih0 ⟨s71, w64 (x57 + 1)⟩ _ ll0 trivial hj45).sub ⟨rfl, rfl, rfl, trivial⟩
    refine WC.exit ?_
    refine WX.then_exit ?_
    refine WX.then_exit ?_
    refine WX.block_here ?_
    exact (kj45 s56 _ lj45 (Option.some.inj hj45)).sub ⟨rfl, rfl, trivial⟩
  rintro s44 J77 hJ78 rfl
  have hI := hI.trans hJ78
  refine WX.then_ ?_
  refine WC.seq ?_
  refine WC.region ?_
  refine mv rfl rfl ?_
  refine mv rfl rfl ?_
  obtain ⟨⟨x79, x80, s81⟩, e82, h⟩ := bnd h
  refine call cl8 rfl rfl (W8 e82) (fun _ J83 _ hJ84 q85 => ?_)
  have hI := hI.trans hJ84
  obtain ⟨a86, c87, rfl, rfl⟩ := q85
  refine mv rfl rfl ?_
  refine ex rfl rfl rfl ?_
  refine ex rfl rfl rfl ?_
  refine asg rfl rfl ?_
  refine asg rfl rfl ?_
  refine WL.del 0 ?_
  refine WL.next ?_
  refine WC.seq ?_
  refine WC.region ?_
  refine mv rfl rfl ?_
  refine mv rfl rfl ?_
  refine ng rfl rfl ?_
  obtain ⟨⟨x89, x90, s91⟩, e92, h⟩ := bnd h
  refine call cl9 rfl rfl (W9 e92) (fun _ J93 _ hJ94 q95 => ?_)
  have hI := hI.trans hJ94
  obtain ⟨a96, c97, rfl, rfl⟩ := q95
  refine mv rfl rfl ?_
  refine ex rfl rfl rfl ?_
  refine ex rfl rfl rfl ?_
  refine asg rfl rfl ?_
  refine asg rfl rfl ?_
  refine WL.del 0 ?_
  refine WL.next ?_
  refine WC.seq ?_
  refine WC.seq ?_
  obtain ⟨j243, hj243, h⟩ := bnd h
  refine WC.joinQ (σ := net_Net × Bool) (fun (s241, x242) => [(3, (.pointer (some ⟨g6, 0, none⟩))), (100, (.bool x242))]) (fun (s241, x242) => Ob_net_Net g6 s241 :: G) (fun (s241, x242) J => (s241, x242) = j243) (fun kj243 => ?_) ?_
  · skip
    have lj243 := Mem.le.refl J93
    refine WC.region ?_
    refine mv rfl rfl ?_
    refine bu bt29 rfl rfl rfl ?_
    obtain ⟨⟨x244, s245⟩, e246, hj243⟩ := bnd hj243
    refine call cl7 rfl rfl (W7 e246 (IV.nil _ : IV _ _ ([] : List UInt8))) (fun _ J247 _ hJ248 q249 => ?_)
    have hI := hI.trans hJ248
    have lj243 := lj243.trans hJ248
    obtain ⟨rfl, rfl⟩ := q249
    refine ne rfl rfl rfl ?_
    refine mv rfl rfl ?_
    rcases spl hj243 with ⟨k250, hj243⟩ | ⟨k250, hj243⟩
    · skip
      refine WL.rb 43 rfl (bT k250) ?_
      refine WL.no rfl rfl rfl rfl ?_
      refine WL.no rfl rfl rfl rfl ?_
      refine pkT rfl rfl rfl ?_
      refine mv rfl rfl ?_
      refine WL.no rfl rfl rfl rfl ?_
      refine WL.no rfl rfl rfl rfl ?_
      refine WL.no rfl rfl rfl rfl ?_
      refine WL.no rfl rfl rfl rfl ?_
      refine pkT rfl rfl rfl ?_
      refine mv rfl rfl ?_
      refine WL.no rfl rfl rfl rfl ?_
      refine WL.no rfl rfl rfl rfl ?_
      refine WL.no rfl rfl rfl rfl ?_
      refine WL.no rfl rfl rfl rfl ?_
      refine WL.no rfl rfl rfl rfl ?_
      refine pkT rfl rfl rfl ?_
      refine mv rfl rfl ?_
      refine WL.no rfl rfl rfl rfl ?_
      refine WL.no rfl rfl rfl rfl ?_
      refine WL.no rfl rfl rfl rfl ?_
      refine WL.no rfl rfl rfl rfl ?_
      refine pkT rfl rfl rfl ?_
      refine mv rfl rfl ?_
      refine WL.no rfl rfl rfl rfl ?_
      refine WL.no rfl rfl rfl rfl ?_
      refine WL.no rfl rfl rfl rfl ?_
      refine WL.no rfl rfl rfl rfl ?_
      refine pkT rfl rfl rfl ?_
      refine mv rfl rfl ?_
      refine WL.no rfl rfl rfl rfl ?_
      refine WL.no rfl rfl rfl rfl ?_
      refine WL.no rfl rfl rfl rfl ?_
      refine WL.no rfl rfl rfl rfl ?_
      refine pkT rfl rfl rfl ?_
      refine mv rfl rfl ?_
      refine WL.no rfl rfl rfl rfl ?_
      refine WL.no rfl rfl rfl rfl ?_
      refine WL.no rfl rfl rfl rfl ?_
      refine WL.no rfl rfl rfl rfl ?_
      refine WL.no rfl rfl rfl rfl ?_
      refine pkT rfl rfl rfl ?_
      refine mv rfl rfl ?_
      refine WL.no rfl rfl rfl rfl ?_
      refine pkT rfl rfl rfl ?_
      refine mv rfl rfl ?_
      refine WL.no rfl rfl rfl rfl ?_
      refine pkT rfl rfl rfl ?_
      refine mv rfl rfl ?_
      refine WL.no rfl rfl rfl rfl ?_
      refine WL.no rfl rfl rfl rfl ?_
      refine WL.no rfl rfl rfl rfl ?_
      refine pkT rfl rfl rfl ?_
      refine mv rfl rfl ?_
      refine WL.no rfl rfl rfl rfl ?_
      refine WL.no rfl rfl rfl rfl ?_
      refine WL.no rfl rfl rfl rfl ?_
      refine pkT rfl rfl rfl ?_
      refine WL.nil ?_
      exact (kj243 ⟨s245, true⟩ _ lj243 (Option.some.inj hj243)).sub ⟨rfl, rfl, trivial⟩
    refine WL.rb 43 rfl (bF k250) ?_
    refine WL.on rfl rfl ?_
    refine mv rfl rfl ?_
    refine WL.on rfl rfl ?_
    obtain ⟨⟨x251, s252⟩, e253, hj243⟩ := bnd hj243
    refine call cl10 rfl rfl (W10 e253) (fun _ J254 _ hJ255 q256 => ?_)
    have hI := hI.trans hJ255
    have lj243 := lj243.trans hJ255
    obtain ⟨rfl, rfl⟩ := q256
    refine pkF rfl rfl rfl ?_
    refine mv rfl rfl ?_
    rcases spl hj243 with ⟨k257, hj243⟩ | ⟨k257, hj243⟩
    · skip
      refine WL.rb 47 rfl (bt1 k257) ?_
      refine WL.no rfl rfl rfl rfl ?_
      refine WL.no rfl rfl rfl rfl ?_
      refine WL.no rfl rfl rfl rfl ?_
      refine WL.no rfl rfl rfl rfl ?_
      refine pkT rfl rfl rfl ?_
      refine mv rfl rfl ?_
      refine WL.no rfl rfl rfl rfl ?_
      refine WL.no rfl rfl rfl rfl ?_
      refine WL.no rfl rfl rfl rfl ?_
      refine WL.no rfl rfl rfl rfl ?_
      refine WL.no rfl rfl rfl rfl ?_
      refine pkT rfl rfl rfl ?_
      refine mv rfl rfl ?_
      refine WL.no rfl rfl rfl rfl ?_
      refine WL.no rfl rfl rfl rfl ?_
      refine WL.no rfl rfl rfl rfl ?_
      refine WL.no rfl rfl rfl rfl ?_
      refine pkT rfl rfl rfl ?_
      refine mv rfl rfl ?_
      refine WL.no rfl rfl rfl rfl ?_
      refine WL.no rfl rfl rfl rfl ?_
      refine WL.no rfl rfl rfl rfl ?_
      refine WL.no rfl rfl rfl rfl ?_
      refine pkT rfl rfl rfl ?_
      refine mv rfl rfl ?_
      refine WL.no rfl rfl rfl rfl ?_
      refine WL.no rfl rfl rfl rfl ?_
      refine WL.no rfl rfl rfl rfl ?_
      refine WL.no rfl rfl rfl rfl ?_
      refine pkT rfl rfl rfl ?_
      refine mv rfl rfl ?_
      refine WL.no rfl rfl rfl rfl ?_
      refine WL.no rfl rfl rfl rfl ?_
      refine WL.no rfl rfl rfl rfl ?_
      refine WL.no rfl rfl rfl rfl ?_
      refine WL.no rfl rfl rfl rfl ?_
      refine pkT rfl rfl rfl ?_
      refine mv rfl rfl ?_
      refine WL.no rfl rfl rfl rfl ?_
      refine pkT rfl rfl rfl ?_
      refine mv rfl rfl ?_
      refine WL.no rfl rfl rfl rfl ?_
      refine pkT rfl rfl rfl ?_
      refine mv rfl rfl ?_
      refine WL.no rfl rfl rfl rfl ?_
      refine WL.no rfl rfl rfl rfl ?_
      refine WL.no rfl rfl rfl rfl ?_
      refine pkT rfl rfl rfl ?_
      refine mv rfl rfl ?_
      refine WL.no rfl rfl rfl rfl ?_
      refine WL.no rfl rfl rfl rfl ?_
      refine WL.no rfl rfl rfl rfl ?_
      refine pkT rfl rfl rfl ?_
      refine WL.nil ?_
      exact (kj243 ⟨s252, true⟩ _ lj243 (Option.some.inj hj243)).sub ⟨rfl, rfl, trivial⟩
    refine WL.rb 47 rfl (bf1 k257) ?_
    refine WL.on rfl rfl ?_
    refine mv rfl rfl ?_
    refine WL.on rfl rfl ?_
    refine bu bt29 rfl rfl rfl ?_
    refine WL.on rfl rfl ?_
    obtain ⟨⟨x258, s259⟩, e260, hj243⟩ := bnd hj243
    refine call cl7 rfl rfl (W7 e260 (IV.nil _ : IV _ _ ([] : List UInt8))) (fun _ J261 _ hJ262 q263 => ?_)
    have hI := hI.trans hJ262
    have lj243 := lj243.trans hJ262
    obtain ⟨rfl, rfl⟩ := q263
    refine WL.on rfl rfl ?_
    refine ne rfl rfl rfl ?_
    refine pkF rfl rfl rfl ?_
    refine mv rfl rfl ?_
    rcases spl hj243 with ⟨k264, hj243⟩ | ⟨k264, hj243⟩
    · skip
      refine WL.rb 53 rfl (bT k264) ?_
      refine WL.no rfl rfl rfl rfl ?_
      refine WL.no rfl rfl rfl rfl ?_
      refine WL.no rfl rfl rfl rfl ?_
      refine WL.no rfl rfl rfl rfl ?_
      refine WL.no rfl rfl rfl rfl ?_
      refine pkT rfl rfl rfl ?_
      refine mv rfl rfl ?_
      refine WL.no rfl rfl rfl rfl ?_
      refine WL.no rfl rfl rfl rfl ?_
      refine WL.no rfl rfl rfl rfl ?_
      refine WL.no rfl rfl rfl rfl ?_
      refine pkT rfl rfl rfl ?_
      refine mv rfl rfl ?_
      refine WL.no rfl rfl rfl rfl ?_
      refine WL.no rfl rfl rfl rfl ?_
      refine WL.no rfl rfl rfl rfl ?_
      refine WL.no rfl rfl rfl rfl ?_
      refine pkT rfl rfl rfl ?_
      refine mv rfl rfl ?_
      refine WL.no rfl rfl rfl rfl ?_
      refine WL.no rfl rfl rfl rfl ?_
      refine WL.no rfl rfl rfl rfl ?_
      refine WL.no rfl rfl rfl rfl ?_
      refine pkT rfl rfl rfl ?_
      refine mv rfl rfl ?_
      refine WL.no rfl rfl rfl rfl ?_
      refine WL.no rfl rfl rfl rfl ?_
      refine WL.no rfl rfl rfl rfl ?_
      refine WL.no rfl rfl rfl rfl ?_
      refine WL.no rfl rfl rfl rfl ?_
      refine pkT rfl rfl rfl ?_
      refine mv rfl rfl ?_
      refine WL.no rfl rfl rfl rfl ?_
      refine pkT rfl rfl rfl ?_
      refine mv rfl rfl ?_
      refine WL.no rfl rfl rfl rfl ?_
      refine pkT rfl rfl rfl ?_
      refine mv rfl rfl ?_
      refine WL.no rfl rfl rfl rfl ?_
      refine WL.no rfl rfl rfl rfl ?_
      refine WL.no rfl rfl rfl rfl ?_
      refine pkT rfl rfl rfl ?_
      refine mv rfl rfl ?_
      refine WL.no rfl rfl rfl rfl ?_
      refine WL.no rfl rfl rfl rfl ?_
      refine WL.no rfl rfl rfl rfl ?_
      refine pkT rfl rfl rfl ?_
      refine WL.nil ?_
      exact (kj243 ⟨s259, true⟩ _ lj243 (Option.some.inj hj243)).sub ⟨rfl, rfl, trivial⟩
    refine WL.rb 53 rfl (bF k264) ?_
    refine WL.on rfl rfl ?_
    refine mv rfl rfl ?_
    refine WL.on rfl rfl ?_
    refine mv rfl rfl ?_
    refine WL.on rfl rfl ?_
    refine bu bt29 rfl rfl rfl ?_
    refine WL.on rfl rfl ?_
    obtain ⟨⟨x265, s266⟩, e267, hj243⟩ := bnd hj243
    refine call cl7 rfl rfl (W7 e267 (IV.nil _ : IV _ _ ([] : List UInt8))) (fun _ J268 _ hJ269 q270 => ?_)
    have hI := hI.trans hJ269
    have lj243 := lj243.trans hJ269
    obtain ⟨rfl, rfl⟩ := q270
    refine WL.on rfl rfl ?_
    refine ne rfl rfl rfl ?_
    refine pkF rfl rfl rfl ?_
    refine mv rfl rfl ?_
    rcases spl hj243 with ⟨k271, hj243⟩ | ⟨k271, hj243⟩
    · skip
      refine WL.rb 60 rfl (bT k271) ?_
      refine WL.no rfl rfl rfl rfl ?_
      refine WL.no rfl rfl rfl rfl ?_
      refine WL.no rfl rfl rfl rfl ?_
      refine WL.no rfl rfl rfl rfl ?_
      refine pkT rfl rfl rfl ?_
      refine mv rfl rfl ?_
      refine WL.no rfl rfl rfl rfl ?_
      refine WL.no rfl rfl rfl rfl ?_
      refine WL.no rfl rfl rfl rfl ?_
      refine WL.no rfl rfl rfl rfl ?_
      refine pkT rfl rfl rfl ?_
      refine mv rfl rfl ?_
      refine WL.no rfl rfl rfl rfl ?_
      refine WL.no rfl rfl rfl rfl ?_
      refine WL.no rfl rfl rfl rfl ?_
      refine WL.no rfl rfl rfl rfl ?_
      refine pkT rfl rfl rfl ?_
      refine mv rfl rfl ?_
      refine WL.no rfl rfl rfl rfl ?_
      refine WL.no rfl rfl rfl rfl ?_
      refine WL.no rfl rfl rfl rfl ?_
      refine WL.no rfl rfl rfl rfl ?_
      refine WL.no rfl rfl rfl rfl ?_
      refine pkT rfl rfl rfl ?_
      refine mv rfl rfl ?_
      refine WL.no rfl rfl rfl rfl ?_
      refine pkT rfl rfl rfl ?_
      refine mv rfl rfl ?_
      refine WL.no rfl rfl rfl rfl ?_
      refine pkT rfl rfl rfl ?_
      refine mv rfl rfl ?_
      refine WL.no rfl rfl rfl rfl ?_
      refine WL.no rfl rfl rfl rfl ?_
      refine WL.no rfl rfl rfl rfl ?_
      refine pkT rfl rfl rfl ?_
      refine mv rfl rfl ?_
      refine WL.no rfl rfl rfl rfl ?_
      refine WL.no rfl rfl rfl rfl ?_
      refine WL.no rfl rfl rfl rfl ?_
      refine pkT rfl rfl rfl ?_
      refine WL.nil ?_
      exact (kj243 ⟨s266, true⟩ _ lj243 (Option.some.inj hj243)).sub ⟨rfl, rfl, trivial⟩
    refine WL.rb 60 rfl (bF k271) ?_
    refine WL.on rfl rfl ?_
    refine mv rfl rfl ?_
    refine WL.on rfl rfl ?_
    refine bu bt29 rfl rfl rfl ?_
    refine WL.on rfl rfl ?_
    obtain ⟨⟨x272, s273⟩, e274, hj243⟩ := bnd hj243
    refine call cl7 rfl rfl (W7 e274 (IV.nil _ : IV _ _ ([] : List UInt8))) (fun _ J275 _ hJ276 q277 => ?_)
    have hI := hI.trans hJ276
    have lj243 := lj243.trans hJ276
    obtain ⟨rfl, rfl⟩ := q277
    refine WL.on rfl rfl ?_
    refine ne rfl rfl rfl ?_
    refine pkF rfl rfl rfl ?_
    refine mv rfl rfl ?_
    rcases spl hj243 with ⟨k278, hj243⟩ | ⟨k278, hj243⟩
    · skip
      refine WL.rb 66 rfl (bT k278) ?_
      refine WL.no rfl rfl rfl rfl ?_
      refine WL.no rfl rfl rfl rfl ?_
      refine WL.no rfl rfl rfl rfl ?_
      refine WL.no rfl rfl rfl rfl ?_
      refine pkT rfl rfl rfl ?_
      refine mv rfl rfl ?_
      refine WL.no rfl rfl rfl rfl ?_
      refine WL.no rfl rfl rfl rfl ?_
      refine WL.no rfl rfl rfl rfl ?_
      refine WL.no rfl rfl rfl rfl ?_
      refine pkT rfl rfl rfl ?_
      refine mv rfl rfl ?_
      refine WL.no rfl rfl rfl rfl ?_
      refine WL.no rfl rfl rfl rfl ?_
      refine WL.no rfl rfl rfl rfl ?_
      refine WL.no rfl rfl rfl rfl ?_
      refine WL.no rfl rfl rfl rfl ?_
      refine pkT rfl rfl rfl ?_
      refine mv rfl rfl ?_
      refine WL.no rfl rfl rfl rfl ?_
      refine pkT rfl rfl rfl ?_
      refine mv rfl rfl ?_
      refine WL.no rfl rfl rfl rfl ?_
      refine pkT rfl rfl rfl ?_
      refine mv rfl rfl ?_
      refine WL.no rfl rfl rfl rfl ?_
      refine WL.no rfl rfl rfl rfl ?_
      refine WL.no rfl rfl rfl rfl ?_
      refine pkT rfl rfl rfl ?_
      refine mv rfl rfl ?_
      refine WL.no rfl rfl rfl rfl ?_
      refine WL.no rfl rfl rfl rfl ?_
      refine WL.no rfl rfl rfl rfl ?_
      refine pkT rfl rfl rfl ?_
      refine WL.nil ?_
      exact (kj243 ⟨s273, true⟩ _ lj243 (Option.some.inj hj243)).sub ⟨rfl, rfl, trivial⟩
    refine WL.rb 66 rfl (bF k278) ?_
    refine WL.on rfl rfl ?_
    refine mv rfl rfl ?_
    refine WL.on rfl rfl ?_
    refine bu bt29 rfl rfl rfl ?_
    refine WL.on rfl rfl ?_
    obtain ⟨⟨x279, s280⟩, e281, hj243⟩ := bnd hj243
    refine call cl7 rfl rfl (W7 e281 (IV.nil _ : IV _ _ ([] : List UInt8))) (fun _ J282 _ hJ283 q284 => ?_)
    have hI := hI.trans hJ283
    have lj243 := lj243.trans hJ283
    obtain ⟨rfl, rfl⟩ := q284
    refine WL.on rfl rfl ?_
    refine ne rfl rfl rfl ?_
    refine pkF rfl rfl rfl ?_
    refine mv rfl rfl ?_
    rcases spl hj243 with ⟨k285, hj243⟩ | ⟨k285, hj243⟩
    · skip
      refine WL.rb 72 rfl (bT k285) ?_
      refine WL.no rfl rfl rfl rfl ?_
      refine WL.no rfl rfl rfl rfl ?_
      refine WL.no rfl rfl rfl rfl ?_
      refine WL.no rfl rfl rfl rfl ?_
      refine pkT rfl rfl rfl ?_
      refine mv rfl rfl ?_
      refine WL.no rfl rfl rfl rfl ?_
      refine WL.no rfl rfl rfl rfl ?_
      refine WL.no rfl rfl rfl rfl ?_
      refine WL.no rfl rfl rfl rfl ?_
      refine WL.no rfl rfl rfl rfl ?_
      refine pkT rfl rfl rfl ?_
      refine mv rfl rfl ?_
      refine WL.no rfl rfl rfl rfl ?_
      refine pkT rfl rfl rfl ?_
      refine mv rfl rfl ?_
      refine WL.no rfl rfl rfl rfl ?_
      refine pkT rfl rfl rfl ?_
      refine mv rfl rfl ?_
      refine WL.no rfl rfl rfl rfl ?_
      refine WL.no rfl rfl rfl rfl ?_
      refine WL.no rfl rfl rfl rfl ?_
      refine pkT rfl rfl rfl ?_
      refine mv rfl rfl ?_
      refine WL.no rfl rfl rfl rfl ?_
      refine WL.no rfl rfl rfl rfl ?_
      refine WL.no rfl rfl rfl rfl ?_
      refine pkT rfl rfl rfl ?_
      refine WL.nil ?_
      exact (kj243 ⟨s280, true⟩ _ lj243 (Option.some.inj hj243)).sub ⟨rfl, rfl, trivial⟩
    refine WL.rb 72 rfl (bF k285) ?_
    refine WL.on rfl rfl ?_
    refine mv rfl rfl ?_
    refine WL.on rfl rfl ?_
    refine mv rfl rfl ?_
    refine WL.on rfl rfl ?_
    obtain ⟨⟨x286, s287⟩, e288, hj243⟩ := bnd hj243
    refine call cl11 rfl rfl (W11 e288) (fun _ J289 _ hJ290 q291 => ?_)
    have hI := hI.trans hJ290
    have lj243 := lj243.trans hJ290
    obtain ⟨rfl, rfl⟩ := q291
    refine WL.on rfl rfl ?_
    refine ne rfl rfl rfl ?_
    refine pkF rfl rfl rfl ?_
    refine mv rfl rfl ?_
    rcases spl hj243 with ⟨k292, hj243⟩ | ⟨k292, hj243⟩
    · skip
      refine WL.rb 78 rfl (bT k292) ?_
      refine WL.no rfl rfl rfl rfl ?_
      refine WL.no rfl rfl rfl rfl ?_
      refine WL.no rfl rfl rfl rfl ?_
      refine WL.no rfl rfl rfl rfl ?_
      refine WL.no rfl rfl rfl rfl ?_
      refine pkT rfl rfl rfl ?_
      refine mv rfl rfl ?_
      refine WL.no rfl rfl rfl rfl ?_
      refine pkT rfl rfl rfl ?_
      refine mv rfl rfl ?_
      refine WL.no rfl rfl rfl rfl ?_
      refine pkT rfl rfl rfl ?_
      refine mv rfl rfl ?_
      refine WL.no rfl rfl rfl rfl ?_
      refine WL.no rfl rfl rfl rfl ?_
      refine WL.no rfl rfl rfl rfl ?_
      refine pkT rfl rfl rfl ?_
      refine mv rfl rfl ?_
      refine WL.no rfl rfl rfl rfl ?_
      refine WL.no rfl rfl rfl rfl ?_
      refine WL.no rfl rfl rfl rfl ?_
      refine pkT rfl rfl rfl ?_
      refine WL.nil ?_
      exact (kj243 ⟨s287, true⟩ _ lj243 (Option.some.inj hj243)).sub ⟨rfl, rfl, trivial⟩
    refine WL.rb 78 rfl (bF k292) ?_
    refine WL.on rfl rfl ?_
    refine mv rfl rfl ?_
    refine WL.on rfl rfl ?_
    refine mv rfl rfl ?_
    refine WL.on rfl rfl ?_
    refine ng rfl rfl ?_
    refine WL.on rfl rfl ?_
    obtain ⟨⟨x293, s294⟩, e295, hj243⟩ := bnd hj243
    refine call cl11 rfl rfl (W11 e295) (fun _ J296 _ hJ297 q298 => ?_)
    have hI := hI.trans hJ297
    have lj243 := lj243.trans hJ297
    obtain ⟨rfl, rfl⟩ := q298
    refine WL.on rfl rfl ?_
    refine ne rfl rfl rfl ?_
    refine pkF rfl rfl rfl ?_
    refine mv rfl rfl ?_
    rcases spl hj243 with ⟨k299, hj243⟩ | ⟨k299, hj243⟩
    · skip
      refine WL.rb 85 rfl (bT k299) ?_
      refine WL.no rfl rfl rfl rfl ?_
      refine pkT rfl rfl rfl ?_
      refine mv rfl rfl ?_
      refine WL.no rfl rfl rfl rfl ?_
      refine pkT rfl rfl rfl ?_
      refine mv rfl rfl ?_
      refine WL.no rfl rfl rfl rfl ?_
      refine WL.no rfl rfl rfl rfl ?_
      refine WL.no rfl rfl rfl rfl ?_
      refine pkT rfl rfl rfl ?_
      refine mv rfl rfl ?_
      refine WL.no rfl rfl rfl rfl ?_
      refine WL.no rfl rfl rfl rfl ?_
      refine WL.no rfl rfl rfl rfl ?_
      refine pkT rfl rfl rfl ?_
      refine WL.nil ?_
      exact (kj243 ⟨s294, true⟩ _ lj243 (Option.some.inj hj243)).sub ⟨rfl, rfl, trivial⟩
    refine WL.rb 85 rfl (bF k299) ?_
    refine WL.on rfl rfl ?_
    refine mv rfl rfl ?_
    refine pkF rfl rfl rfl ?_
    refine mv rfl rfl ?_
    rcases spl hj243 with ⟨k300, hj243⟩ | ⟨k300, hj243⟩
    · skip
      refine WL.rb 88 rfl (bt1 k300) ?_
      refine WL.no rfl rfl rfl rfl ?_
      refine pkT rfl rfl rfl ?_
      refine mv rfl rfl ?_
      refine WL.no rfl rfl rfl rfl ?_
      refine WL.no rfl rfl rfl rfl ?_
      refine WL.no rfl rfl rfl rfl ?_
      refine pkT rfl rfl rfl ?_
      refine mv rfl rfl ?_
      refine WL.no rfl rfl rfl rfl ?_
      refine WL.no rfl rfl rfl rfl ?_
      refine WL.no rfl rfl rfl rfl ?_
      refine pkT rfl rfl rfl ?_
      refine WL.nil ?_
      exact (kj243 ⟨s294, true⟩ _ lj243 (Option.some.inj hj243)).sub ⟨rfl, rfl, trivial⟩
    refine WL.rb 88 rfl (bf1 k300) ?_
    refine WL.on rfl rfl ?_
    refine mv rfl rfl ?_
    refine pkF rfl rfl rfl ?_
    refine mv rfl rfl ?_
    rcases spl hj243 with ⟨k301, hj243⟩ | ⟨k301, hj243⟩
    · skip
      refine WL.rb 91 rfl (bt1 k301) ?_
      refine WL.no rfl rfl rfl rfl ?_
      refine WL.no rfl rfl rfl rfl ?_
      refine WL.no rfl rfl rfl rfl ?_
      refine pkT rfl rfl rfl ?_
      refine mv rfl rfl ?_
      refine WL.no rfl rfl rfl rfl ?_
      refine WL.no rfl rfl rfl rfl ?_
      refine WL.no rfl rfl rfl rfl ?_
      refine pkT rfl rfl rfl ?_
      refine WL.nil ?_
      exact (kj243 ⟨s294, true⟩ _ lj243 (Option.some.inj hj243)).sub ⟨rfl, rfl, trivial⟩
    refine WL.rb 91 rfl (bf1 k301) ?_
    refine WL.on rfl rfl ?_
    refine mv rfl rfl ?_
    refine WL.on rfl rfl ?_
    refine mv rfl rfl ?_
    refine WL.on rfl rfl ?_
    obtain ⟨⟨x302, s303⟩, e304, hj243⟩ := bnd hj243
    refine call cl10 rfl rfl (W10 e304) (fun _ J305 _ hJ306 q307 => ?_)
    have hI := hI.trans hJ306
    have lj243 := lj243.trans hJ306
    obtain ⟨rfl, rfl⟩ := q307
    refine pkF rfl rfl rfl ?_
    refine mv rfl rfl ?_
    rcases spl hj243 with ⟨k308, hj243⟩ | ⟨k308, hj243⟩
    · skip
      refine WL.rb 96 rfl (bt1 k308) ?_
      refine WL.no rfl rfl rfl rfl ?_
      refine WL.no rfl rfl rfl rfl ?_
      refine WL.no rfl rfl rfl rfl ?_
      refine pkT rfl rfl rfl ?_
      refine WL.nil ?_
      exact (kj243 ⟨s303, true⟩ _ lj243 (Option.some.inj hj243)).sub ⟨rfl, rfl, trivial⟩
    refine WL.rb 96 rfl (bf1 k308) ?_
    refine WL.on rfl rfl ?_
    refine mv rfl rfl ?_
    refine WL.on rfl rfl ?_
    refine mv rfl rfl ?_
    refine WL.on rfl rfl ?_
    obtain ⟨⟨x309, s310⟩, e311, hj243⟩ := bnd hj243
    refine call cl12 rfl rfl (W12 e311) (fun _ J312 _ hJ313 q314 => ?_)
    have hI := hI.trans hJ313
    have lj243 := lj243.trans hJ313
    obtain ⟨rfl, rfl⟩ := q314
    refine pkF rfl rfl rfl ?_
    refine WL.nil ?_
    exact (kj243 ⟨s310, x309⟩ _ lj243 (Option.some.inj hj243)).sub ⟨rfl, rfl, trivial⟩
  rintro ⟨s241, x242⟩ J315 hJ316 rfl
  have hI := hI.trans hJ316
  refine WX.then_ ?_
  refine WC.iteb rfl h (fun k317 h => ?_) (fun k317 h => ?_)
  · skip
    refine WC.seq ?_
    refine WC.region ?_
    refine asg rfl rfl ?_
    refine WL.del 0 ?_
    refine WL.next ?_
    refine WC.ret ?_
    refine WX.then_ret ?_
    cases h
    exact ret1 Try.results3 rfl hI ⟨rfl, rfl⟩
  refine WC.skip ?_
  refine WX.then_ ?_
  refine WC.seq ?_
  refine WC.region ?_
  refine mv rfl rfl ?_
  obtain ⟨⟨x318, x319, s320⟩, e321, h⟩ := bnd h
  refine call cl9 rfl rfl (W9 e321) (fun _ J322 _ hJ323 q324 => ?_)
  have hI := hI.trans hJ323
  obtain ⟨a325, c326, rfl, rfl⟩ := q324
  refine mv rfl rfl ?_
  refine ex rfl rfl rfl ?_
  refine ex rfl rfl rfl ?_
  refine asg rfl rfl ?_
  refine asg rfl rfl ?_
  refine WL.del 0 ?_
  refine WL.next ?_
  refine WC.seq ?_
  refine WC.region ?_
  refine mv rfl rfl ?_
  refine mv rfl rfl ?_
  rcases spl h with ⟨k328, h⟩ | ⟨k328, h⟩
  · skip
    refine WL.rb 107 rfl (bt1 k328) ?_
    refine WL.on rfl rfl ?_
    refine mv rfl rfl ?_
    refine WL.on rfl rfl ?_
    obtain ⟨⟨x329, s330⟩, e331, h⟩ := bnd h
    refine call cl11 rfl rfl (W11 e331) (fun _ J332 _ hJ333 q334 => ?_)
    have hI := hI.trans hJ333
    obtain ⟨rfl, rfl⟩ := q334
    refine WL.on rfl rfl ?_
    refine eq rfl rfl rfl ?_
    refine pkT rfl rfl rfl ?_
    refine mv rfl rfl ?_
    rcases spl h with ⟨k335, h⟩ | ⟨k335, h⟩
    · skip
      refine WL.rb 112 rfl (bT k335) ?_
      refine WL.on rfl rfl ?_
      refine mv rfl rfl ?_
      refine WL.on rfl rfl ?_
      obtain ⟨⟨x336, s337⟩, e338, h⟩ := bnd h
      refine call cl10 rfl rfl (W10 e338) (fun _ J339 _ hJ340 q341 => ?_)
      have hI := hI.trans hJ340
      obtain ⟨rfl, rfl⟩ := q341
      refine pkT rfl rfl rfl ?_
      refine mv rfl rfl ?_
      rcases spl h with ⟨k342, h⟩ | ⟨k342, h⟩
      · skip
        refine WL.rb 116 rfl (bt1 k342) ?_
        refine WL.on rfl rfl ?_
        refine mv rfl rfl ?_
        refine WL.on rfl rfl ?_
        obtain ⟨⟨x343, s344⟩, e345, h⟩ := bnd h
        refine call cl11 rfl rfl (W11 e345) (fun _ J346 _ hJ347 q348 => ?_)
        have hI := hI.trans hJ347
        obtain ⟨rfl, rfl⟩ := q348
        refine WL.on rfl rfl ?_
        refine eq rfl rfl rfl ?_
        refine pkT rfl rfl rfl ?_
        refine mv rfl rfl ?_
        rcases spl h with ⟨k349, h⟩ | ⟨k349, h⟩
        · skip
          refine WL.rb 121 rfl (bT k349) ?_
          refine WL.on rfl rfl ?_
          refine mv rfl rfl ?_
          refine WL.on rfl rfl ?_
          obtain ⟨⟨x350, s351⟩, e352, h⟩ := bnd h
          refine call cl11 rfl rfl (W11 e352) (fun _ J353 _ hJ354 q355 => ?_)
          have hI := hI.trans hJ354
          obtain ⟨rfl, rfl⟩ := q355
          refine WL.on rfl rfl ?_
          refine eq rfl rfl rfl ?_
          refine pkT rfl rfl rfl ?_
          refine mv rfl rfl ?_
          rcases spl h with ⟨k356, h⟩ | ⟨k356, h⟩
          · skip
            refine WL.rb 126 rfl (bT k356) ?_
            refine WL.on rfl rfl ?_
            obtain ⟨x357, e358, h⟩ := bnd h
            refine call cl13 rfl rfl (W13 e358) (fun _ J359 _ hJ360 q361 => ?_)
            have hI := hI.trans hJ360
            obtain ⟨rfl, rfl⟩ := q361
            refine pkT rfl rfl rfl ?_
            refine asg rfl rfl ?_
            refine WL.del 0 ?_
            refine WL.next ?_
            refine WC.ret ?_
            cases h
            exact ret1 Try.results3 rfl hI ⟨rfl, rfl⟩
          refine WL.rb 126 rfl (bF k356) ?_
          refine WL.no rfl rfl rfl rfl ?_
          refine pkF rfl rfl rfl ?_
          refine asg rfl rfl ?_
          refine WL.del 0 ?_
          refine WL.next ?_
          refine WC.ret ?_
          cases h
          exact ret1 Try.results3 rfl hI ⟨rfl, rfl⟩
        refine WL.rb 121 rfl (bF k349) ?_
        refine WL.no rfl rfl rfl rfl ?_
        refine WL.no rfl rfl rfl rfl ?_
        refine WL.no rfl rfl rfl rfl ?_
        refine pkF rfl rfl rfl ?_
        refine mv rfl rfl ?_
        refine WL.no rfl rfl rfl rfl ?_
        refine pkF rfl rfl rfl ?_
        refine asg rfl rfl ?_
        refine WL.del 0 ?_
        refine WL.next ?_
        refine WC.ret ?_
        cases h
        exact ret1 Try.results3 rfl hI ⟨rfl, rfl⟩
      refine WL.rb 116 rfl (bf1 k342) ?_
      refine WL.no rfl rfl rfl rfl ?_
      refine WL.no rfl rfl rfl rfl ?_
      refine WL.no rfl rfl rfl rfl ?_
      refine pkF rfl rfl rfl ?_
      refine mv rfl rfl ?_
      refine WL.no rfl rfl rfl rfl ?_
      refine WL.no rfl rfl rfl rfl ?_
      refine WL.no rfl rfl rfl rfl ?_
      refine pkF rfl rfl rfl ?_
      refine mv rfl rfl ?_
      refine WL.no rfl rfl rfl rfl ?_
      refine pkF rfl rfl rfl ?_
      refine asg rfl rfl ?_
      refine WL.del 0 ?_
      refine WL.next ?_
      refine WC.ret ?_
      cases h
      exact ret1 Try.results3 rfl hI ⟨rfl, rfl⟩
    refine WL.rb 112 rfl (bF k335) ?_
    refine WL.no rfl rfl rfl rfl ?_
    refine WL.no rfl rfl rfl rfl ?_
    refine pkF rfl rfl rfl ?_
    refine mv rfl rfl ?_
    refine WL.no rfl rfl rfl rfl ?_
    refine WL.no rfl rfl rfl rfl ?_
    refine WL.no rfl rfl rfl rfl ?_
    refine pkF rfl rfl rfl ?_
    refine mv rfl rfl ?_
    refine WL.no rfl rfl rfl rfl ?_
    refine WL.no rfl rfl rfl rfl ?_
    refine WL.no rfl rfl rfl rfl ?_
    refine pkF rfl rfl rfl ?_
    refine mv rfl rfl ?_
    refine WL.no rfl rfl rfl rfl ?_
    refine pkF rfl rfl rfl ?_
    refine asg rfl rfl ?_
    refine WL.del 0 ?_
    refine WL.next ?_
    refine WC.ret ?_
    cases h
    exact ret1 Try.results3 rfl hI ⟨rfl, rfl⟩
  refine WL.rb 107 rfl (bf1 k328) ?_
  refine WL.no rfl rfl rfl rfl ?_
  refine WL.no rfl rfl rfl rfl ?_
  refine WL.no rfl rfl rfl rfl ?_
  refine pkF rfl rfl rfl ?_
  refine mv rfl rfl ?_
  refine WL.no rfl rfl rfl rfl ?_
  refine WL.no rfl rfl rfl rfl ?_
  refine pkF rfl rfl rfl ?_
  refine mv rfl rfl ?_
  refine WL.no rfl rfl rfl rfl ?_
  refine WL.no rfl rfl rfl rfl ?_
  refine WL.no rfl rfl rfl rfl ?_
  refine pkF rfl rfl rfl ?_
  refine mv rfl rfl ?_
  refine WL.no rfl rfl rfl rfl ?_
  refine WL.no rfl rfl rfl rfl ?_
  refine WL.no rfl rfl rfl rfl ?_
  refine pkF rfl rfl rfl ?_
  refine mv rfl rfl ?_
  refine WL.no rfl rfl rfl rfl ?_
  refine pkF rfl rfl rfl ?_
  refine asg rfl rfl ?_
  refine WL.del 0 ?_
  refine WL.next ?_
  refine WC.ret ?_
  cases h
  exact ret1 Try.results3 rfl hI ⟨rfl, rfl⟩
theorem W23 {I : Mem} {G : List Asn} {p0 : List UInt8} {r : span_Reader} (h : span_New p0 = some r) {u0 : Value} (hp0 : IV I u0 p0) :
    CallsS Try.prog 23 #[u0] I (G) (fun v J G' => ∃ rg0, v = .pointer (some ⟨rg0, 0, none⟩) ∧ Ob_span_Reader rg0 r :: G = G') := by
  refine CallsS.enter Try.func23 rfl Try.ntmps23 rfl (fun w0 => ?_)
  have hI := Mem.le.refl I
  obtain ⟨a0, c0, rfl⟩ := hp0.hd
  unfold span_New at h
  refine WC.seq ?_
  refine WC.region ?_
  refine asg rfl rfl ?_
  refine WL.next ?_
  refine WC.seq ?_
  refine WC.region ?_
  refine mv rfl rfl ?_
  obtain ⟨x1, e2, h⟩ := bnd h
  refine call cl18 rfl rfl (W18 e2 hp0) (fun _ J3 _ hJ4 q5 => ?_)
  have hI := hI.trans hJ4
  replace hp0 := hp0.up hJ4
  obtain ⟨a6, c7, rfl, rfl⟩ := q5
  refine bu bt59 rfl rfl rfl ?_
  refine bx rfl rfl rfl (fun g9 => ?_)
  refine asg rfl rfl ?_
  refine WL.next ?_
  refine WC.ret ?_
  refine WX.front 1 ?_
  refine WX.freeze (fun J11 hJ12 h13 => ?_)
  have hI := hI.trans hJ12
  refine WX.shut_span_Reader (⟨x1, 0, false⟩ : span_Reader) h13 ?_
  cases h
  exact ret1 Try.results23 rfl hI ⟨_, rfl, rfl⟩
theorem W25 {I : Mem} {G : List Asn} {p0 : span_Reader} {r : Int × span_Reader} (h : span_Reader_Left p0 = some r) {g0 : Nat} :
    CallsS Try.prog 25 #[.pointer (some ⟨g0, 0, none⟩)] I (Ob_span_Reader g0 p0 :: G) (fun v J G' => v = .int .i64 r.1 ∧ Ob_span_Reader g0 (r.2) :: G = G') := by
  refine CallsS.enter Try.func25 rfl Try.ntmps25 rfl (fun w0 => ?_)
  have hI := Mem.le.refl I
  unfold span_Reader_Left at h
  refine WC.seq ?_
  refine WC.region ?_
  refine asg rfl rfl ?_
  refine WL.next ?_
  refine WC.seq ?_
  refine WC.open_span_Reader (fun a2 c3 h4 => ?_)
  refine WC.sub (r := [(0, (.pointer (some ⟨g0, 0, none⟩)))]) ?_ ⟨rfl, trivial⟩
  obtain ⟨x5, e6, h⟩ := bnd h
  refine WC.drawn mo (nthL [[], [0], [0, 1], [0, 1, 2], [0, 1, 2, 3], [], [5], [5, 6], [5, 6, 7], [0, 1, 2, 3, 4, 5, 6, 7, 8], [0, 1, 2, 3, 4, 5, 6, 7, 8, 9]]) (nthL [[], [0], [1], [2], [3], [], [5], [6], [7], [4, 8], [9]]) (nthK [.val (.pointer (some ⟨g0, 0, none⟩)), .val (.pointer (some ⟨g0, 0, none⟩)), .val (.pointer (some ⟨g0, 0, none⟩)), .val (.slice a2 p0.b_.length c3), .val (.int .i64 (p0.b_.length : Int)), .val (.pointer (some ⟨g0, 0, none⟩)), .val (.pointer (some ⟨g0, 0, none⟩)), .val (.pointer (some ⟨g0, 1, none⟩)), .val (.int .i64 p0.at_), .val (.int .i64 x5), .val (.int .i64 x5)]) [⟨none, none, [3, 8], [], fun _ => bl g0 #[(.slice a2 p0.b_.length c3), (.int .i64 p0.at_), (.bool p0.bad_)] 59⟩] (by kernel_rfl) (by kernel_rfl) (by kernel_rfl) (H := G) rfl ⟨?_, ?_, ?_, ?_, ?_, ?_, ?_, ?_, ?_, ?_, ?_, trivial⟩ ?_
  · intro Q ρ I1 H hI1 hk hpost
    have hc := Mem.le.refl I1
    refine mv rfl rfl ?_
    refine WL.nil ?_
    exact hpost _ _ hc rfl _ (fun _ hd => by obtain rfl := Option.some.inj hd; exact ⟨rfl, trivial⟩)
  · intro Q ρ I1 H hI1 hk hpost
    obtain ⟨_, -⟩ := hk
    have hc := Mem.le.refl I1
    refine nc rfl rfl ?_
    refine WL.nil ?_
    exact hpost _ _ hc rfl _ (fun _ hd => by obtain rfl := Option.some.inj hd; exact ⟨rfl, trivial⟩)
  · intro Q ρ I1 H hI1 hk hpost
    obtain ⟨_, -⟩ := hk
    have hc := Mem.le.refl I1
    refine fa fl59_0 rfl rfl ?_
    refine WL.nil ?_
    exact hpost _ _ hc rfl _ (fun _ hd => by obtain rfl := Option.some.inj hd; exact ⟨rfl, trivial⟩)
  · intro Q ρ I1 H hI1 hk hpost
    obtain ⟨_, -⟩ := hk
    have hc := Mem.le.refl I1
    refine ld 0 na27 rfl rfl rfl rfl ?_
    refine WL.nil ?_
    exact hpost _ _ hc rfl _ (fun _ hd => by obtain rfl := Option.some.inj hd; exact ⟨rfl, trivial⟩)
  · intro Q ρ I1 H hI1 hk hpost
    obtain ⟨_, -⟩ := hk
    replace h4 := h4.up hI1
    have hc := Mem.le.refl I1
    refine ln et27 rfl (h4.rd) rfl ?_
    refine WL.nil ?_
    exact hpost _ _ hc rfl _ (fun _ hd => by obtain rfl := Option.some.inj hd; exact ⟨rfl, trivial⟩)
  · intro Q ρ I1 H hI1 hk hpost
    have hc := Mem.le.refl I1
    refine mv rfl rfl ?_
    refine WL.nil ?_
    exact hpost _ _ hc rfl _ (fun _ hd => by obtain rfl := Option.some.inj hd; exact ⟨rfl, trivial⟩)
  · intro Q ρ I1 H hI1 hk hpost
    obtain ⟨_, -⟩ := hk
    have hc := Mem.le.refl I1
    refine nc rfl rfl ?_
    refine WL.nil ?_
    exact hpost _ _ hc rfl _ (fun _ hd => by obtain rfl := Option.some.inj hd; exact ⟨rfl, trivial⟩)
  · intro Q ρ I1 H hI1 hk hpost
    obtain ⟨_, -⟩ := hk
    have hc := Mem.le.refl I1
    refine fa fl59_1 rfl rfl ?_
    refine WL.nil ?_
    exact hpost _ _ hc rfl _ (fun _ hd => by obtain rfl := Option.some.inj hd; exact ⟨rfl, trivial⟩)
  · intro Q ρ I1 H hI1 hk hpost
    obtain ⟨_, -⟩ := hk
    have hc := Mem.le.refl I1
    refine ld 0 na3 rfl rfl rfl rfl ?_
    refine WL.nil ?_
    exact hpost _ _ hc rfl _ (fun _ hd => by obtain rfl := Option.some.inj hd; exact ⟨rfl, trivial⟩)
  · intro Q ρ I1 H hI1 hk hpost
    obtain ⟨_, _, -⟩ := hk
    have hc := Mem.le.refl I1
    refine su rfl rfl rfl ?_
    refine WL.re (congrArg (Value.int .i64) (Option.some.inj e6)) ?_
    refine WL.nil ?_
    exact hpost _ _ hc rfl _ (fun _ hd => by obtain rfl := Option.some.inj hd; exact ⟨rfl, trivial⟩)
  · intro Q ρ I1 H hI1 hk hpost
    obtain ⟨_, -⟩ := hk
    have hc := Mem.le.refl I1
    refine asg rfl rfl ?_
    refine WL.nil ?_
    exact hpost _ _ hc rfl _ (fun _ hd => by obtain rfl := Option.some.inj hd; exact ⟨rfl, trivial⟩)
  rintro ρ J7 hJ8 -
  refine WX.sub (r := [(2, (.int .i64 x5))]) ?_ ⟨rfl, trivial⟩
  refine WX.is (H := bl g0 #[(.slice a2 p0.b_.length c3), (.int .i64 p0.at_), (.bool p0.bad_)] 59 :: G) rfl ?_
  have hI := hI.trans hJ8
  replace h4 := h4.up hJ8
  refine WX.then_ ?_
  refine WC.ret ?_
  refine WX.shut_span_Reader (⟨p0.b_, p0.at_, p0.bad_⟩ : span_Reader) h4 ?_
  cases h
  exact ret1 Try.results25 rfl hI ⟨rfl, rfl⟩
theorem W29 {I : Mem} {G : List Asn} {p0 : span_Reader} {r : UInt8 × span_Reader} (h : span_Reader_Byte p0 = some r) {g0 : Nat} :
    CallsS Try.prog 29 #[.pointer (some ⟨g0, 0, none⟩)] I (Ob_span_Reader g0 p0 :: G) (fun v J G' => v = .int .u8 (r.1.toNat : Int) ∧ Ob_span_Reader g0 (r.2) :: G = G') := by
  refine CallsS.enter Try.func29 rfl Try.ntmps29 rfl (fun w0 => ?_)
  have hI := Mem.le.refl I
  unfold span_Reader_Byte at h
  refine WC.seq ?_
  refine WC.region ?_
  refine asg rfl rfl ?_
  refine WL.next ?_
  refine WC.seq ?_
  refine WC.seq ?_
  obtain ⟨j24, hj24, h⟩ := bnd h
  refine WC.joinQ (σ := span_Reader × Bool) (fun (s22, x23) => [(0, (.pointer (some ⟨g0, 0, none⟩))), (11, (.bool x23))]) (fun (s22, x23) => Ob_span_Reader g0 s22 :: G) (fun (s22, x23) J => (s22, x23) = j24) (fun kj24 => ?_) ?_
  · skip
    have lj24 := Mem.le.refl I
    refine WC.region ?_
    refine mv rfl rfl ?_
    refine nc rfl rfl ?_
    refine fa fl59_2 rfl rfl ?_
    refine WL.open_span_Reader (fun a25 c26 h27 => ?_)
    refine ld 0 na4 rfl rfl rfl rfl ?_
    refine mv rfl rfl ?_
    rcases spl hj24 with ⟨k28, hj24⟩ | ⟨k28, hj24⟩
    · skip
      refine WL.rb 7 rfl (bt1 k28) ?_
      refine WL.no rfl rfl rfl rfl ?_
      refine WL.no rfl rfl rfl rfl ?_
      refine WL.no rfl rfl rfl rfl ?_
      refine pkT rfl rfl rfl ?_
      refine WL.nil ?_
      refine WX.shut_span_Reader (⟨p0.b_, p0.at_, p0.bad_⟩ : span_Reader) h27 ?_
      exact (kj24 ⟨(⟨p0.b_, p0.at_, p0.bad_⟩ : span_Reader), true⟩ _ lj24 (Option.some.inj hj24)).sub ⟨rfl, rfl, trivial⟩
    refine WL.rb 7 rfl (bf1 k28) ?_
    refine WL.on rfl rfl ?_
    refine mv rfl rfl ?_
    refine WL.on rfl rfl ?_
    refine WL.shut_span_Reader (⟨p0.b_, p0.at_, p0.bad_⟩ : span_Reader) h27 ?_
    obtain ⟨⟨x29, s30⟩, e31, hj24⟩ := bnd hj24
    refine call cl25 rfl rfl (W25 e31) (fun _ J32 _ hJ33 q34 => ?_)
    have hI := hI.trans hJ33
    have lj24 := lj24.trans hJ33
    obtain ⟨rfl, rfl⟩ := q34
    refine WL.on rfl rfl ?_
    refine eq rfl rfl rfl ?_
    refine pkF rfl rfl rfl ?_
    refine WL.nil ?_
    exact (kj24 ⟨s30, (decide (x29 = 0))⟩ _ lj24 (Option.some.inj hj24)).sub ⟨rfl, rfl, trivial⟩
  rintro ⟨s22, x23⟩ J35 hJ36 rfl
  have hI := hI.trans hJ36
  refine WX.then_ ?_
  refine WC.iteb rfl h (fun k37 h => ?_) (fun k37 h => ?_)
  · skip
    refine WC.seq ?_
    refine WC.region ?_
    refine mv rfl rfl ?_
    refine nc rfl rfl ?_
    refine fa fl59_2 rfl rfl ?_
    refine WL.open_span_Reader (fun a38 c39 h40 => ?_)
    refine st (C' := #[(.slice a38 s22.b_.length c39), (.int .i64 s22.at_), (.bool true)]) sz4 rfl rfl rfl rfl rfl ?_
    refine WL.next ?_
    refine WC.seq ?_
    refine WC.region ?_
    refine asg rfl rfl ?_
    refine WL.next ?_
    refine WC.ret ?_
    refine WX.then_ret ?_
    refine WX.shut_span_Reader (⟨s22.b_, s22.at_, true⟩ : span_Reader) h40 ?_
    cases h
    exact ret1 Try.results29 rfl hI ⟨rfl, rfl⟩
  refine WC.skip ?_
  refine WX.then_ ?_
  refine WC.seq ?_
  refine WC.region ?_
  refine mv rfl rfl ?_
  refine nc rfl rfl ?_
  refine fa fl59_1 rfl rfl ?_
  refine WL.open_span_Reader (fun a41 c42 h43 => ?_)
  refine ld 0 na3 rfl rfl rfl rfl ?_
  refine ad rfl rfl rfl ?_
  refine nc rfl rfl ?_
  refine fa fl59_1 rfl rfl ?_
  refine st (C' := #[(.slice a41 s22.b_.length c42), (.int .i64 (w64 (s22.at_ + 1))), (.bool s22.bad_)]) sz3 rfl rfl rfl rfl rfl ?_
  refine WL.next ?_
  refine WC.seq ?_
  refine WC.sub (r := [(0, (.pointer (some ⟨g0, 0, none⟩)))]) ?_ ⟨rfl, trivial⟩
  obtain ⟨z44, e45, h⟩ := bnd h
  refine WC.drawn mo (nthL [[], [0], [0, 1], [0, 1, 2], [], [4], [4, 5], [4, 5, 6], [4, 5, 6, 7], [0, 1, 2, 3, 4, 5, 6, 7, 8], [0, 1, 2, 3, 4, 5, 6, 7, 8, 9], [0, 1, 2, 3, 4, 5, 6, 7, 8, 9, 10]]) (nthL [[], [0], [1], [2], [], [4], [5], [6], [7], [3, 8], [9], [10]]) (nthK [.val (.pointer (some ⟨g0, 0, none⟩)), .val (.pointer (some ⟨g0, 0, none⟩)), .val (.pointer (some ⟨g0, 0, none⟩)), .val (.slice a41 s22.b_.length c42), .val (.pointer (some ⟨g0, 0, none⟩)), .val (.pointer (some ⟨g0, 0, none⟩)), .val (.pointer (some ⟨g0, 1, none⟩)), .val (.int .i64 (w64 (s22.at_ + 1))), .val (.int .i64 (w64 ((w64 (s22.at_ + 1)) - 1))), .ip z44, .val (.int .u8 (z44.toNat : Int)), .val (.int .u8 (z44.toNat : Int))]) [⟨none, none, [3, 7], [], fun _ => bl g0 #[(.slice a41 s22.b_.length c42), (.int .i64 (w64 (s22.at_ + 1))), (.bool s22.bad_)] 59⟩] (by kernel_rfl) (by kernel_rfl) (by kernel_rfl) (H := G) rfl ⟨?_, ?_, ?_, ?_, ?_, ?_, ?_, ?_, ?_, ?_, ?_, ?_, trivial⟩ ?_
  · intro Q ρ I1 H hI1 hk hpost
    have hc := Mem.le.refl I1
    refine mv rfl rfl ?_
    refine WL.nil ?_
    exact hpost _ _ hc rfl _ (fun _ hd => by obtain rfl := Option.some.inj hd; exact ⟨rfl, trivial⟩)
  · intro Q ρ I1 H hI1 hk hpost
    obtain ⟨_, -⟩ := hk
    have hc := Mem.le.refl I1
    refine nc rfl rfl ?_
    refine WL.nil ?_
    exact hpost _ _ hc rfl _ (fun _ hd => by obtain rfl := Option.some.inj hd; exact ⟨rfl, trivial⟩)
  · intro Q ρ I1 H hI1 hk hpost
    obtain ⟨_, -⟩ := hk
    have hc := Mem.le.refl I1
    refine fa fl59_0 rfl rfl ?_
    refine WL.nil ?_
    exact hpost _ _ hc rfl _ (fun _ hd => by obtain rfl := Option.some.inj hd; exact ⟨rfl, trivial⟩)
  · intro Q ρ I1 H hI1 hk hpost
    obtain ⟨_, -⟩ := hk
    have hc := Mem.le.refl I1
    refine ld 0 na27 rfl rfl rfl rfl ?_
    refine WL.nil ?_
    exact hpost _ _ hc rfl _ (fun _ hd => by obtain rfl := Option.some.inj hd; exact ⟨rfl, trivial⟩)
  · intro Q ρ I1 H hI1 hk hpost
    have hc := Mem.le.refl I1
    refine mv rfl rfl ?_
    refine WL.nil ?_
    exact hpost _ _ hc rfl _ (fun _ hd => by obtain rfl := Option.some.inj hd; exact ⟨rfl, trivial⟩)
  · intro Q ρ I1 H hI1 hk hpost
    obtain ⟨_, -⟩ := hk
    have hc := Mem.le.refl I1
    refine nc rfl rfl ?_
    refine WL.nil ?_
    exact hpost _ _ hc rfl _ (fun _ hd => by obtain rfl := Option.some.inj hd; exact ⟨rfl, trivial⟩)
  · intro Q ρ I1 H hI1 hk hpost
    obtain ⟨_, -⟩ := hk
    have hc := Mem.le.refl I1
    refine fa fl59_1 rfl rfl ?_
    refine WL.nil ?_
    exact hpost _ _ hc rfl _ (fun _ hd => by obtain rfl := Option.some.inj hd; exact ⟨rfl, trivial⟩)
  · intro Q ρ I1 H hI1 hk hpost
    obtain ⟨_, -⟩ := hk
    have hc := Mem.le.refl I1
    refine ld 0 na3 rfl rfl rfl rfl ?_
    refine WL.nil ?_
    exact hpost _ _ hc rfl _ (fun _ hd => by obtain rfl := Option.some.inj hd; exact ⟨rfl, trivial⟩)
  · intro Q ρ I1 H hI1 hk hpost
    obtain ⟨_, -⟩ := hk
    have hc := Mem.le.refl I1
    refine su rfl rfl rfl ?_
    refine WL.nil ?_
    exact hpost _ _ hc rfl _ (fun _ hd => by obtain rfl := Option.some.inj hd; exact ⟨rfl, trivial⟩)
  · intro Q ρ I1 H hI1 hk hpost
    obtain ⟨_, _, -⟩ := hk
    replace h43 := h43.up hI1
    have hc := Mem.le.refl I1
    refine ixi et27 rfl rfl h43 e45 rfl (fun uv46 h47 => ?_)
    refine WL.nil ?_
    exact hpost _ _ hc h47 _ (fun _ hd => by obtain rfl := Option.some.inj hd; exact ⟨rfl, trivial⟩)
  · intro Q ρ I1 H hI1 hk hpost
    obtain ⟨k9, -⟩ := hk
    have hc := Mem.le.refl I1
    refine ldi (α := UInt8) na5 rfl k9 rfl (fun uv48 h49 => ?_)
    obtain rfl := h49.u8
    refine WL.nil ?_
    exact hpost _ _ hc rfl _ (fun _ hd => by obtain rfl := Option.some.inj hd; exact ⟨rfl, trivial⟩)
  · intro Q ρ I1 H hI1 hk hpost
    obtain ⟨_, -⟩ := hk
    have hc := Mem.le.refl I1
    refine asg rfl rfl ?_
    refine WL.nil ?_
    exact hpost _ _ hc rfl _ (fun _ hd => by obtain rfl := Option.some.inj hd; exact ⟨rfl, trivial⟩)
  rintro ρ J50 hJ51 -
  refine WX.sub (r := [(2, (.int .u8 (z44.toNat : Int)))]) ?_ ⟨rfl, trivial⟩
  refine WX.is (H := bl g0 #[(.slice a41 s22.b_.length c42), (.int .i64 (w64 (s22.at_ + 1))), (.bool s22.bad_)] 59 :: G) rfl ?_
  have hI := hI.trans hJ51
  replace h43 := h43.up hJ51
  refine WX.then_ ?_
  refine WC.ret ?_
  refine WX.shut_span_Reader (⟨s22.b_, w64 (s22.at_ + 1), s22.bad_⟩ : span_Reader) h43 ?_
  cases h
  exact ret1 Try.results29 rfl hI ⟨rfl, rfl⟩
end Go.Proofs.Ytcfapdamgbbklaa
