/- Printed by a program of this session: walks of Go functions. -/
import Derived.Test.YtgobccnphhljcaaKf
import Derived.Test.YtgobccnphhljcaaDf
import Derived.Test.YtgobccnphhljcaaK0
import Derived.Test.YtgobccnphhljcaaK1
namespace Go.Proofs.Ytgobccnphhljcaa
set_option linter.unusedVariables false
set_option maxRecDepth 10000
set_option maxHeartbeats 2000000
theorem W34 {I : Mem} {G : List Asn} {p0 : api_Packet} {p1 : Int} {r : api_Packet} (h : haulierplay_Packet p0 p1 = some r) {u0_5 : Value} (hp0_5 : IV I u0_5 p0.Data) :
    CallsS Try.prog 34 #[.agg #[(.int .i64 p0.Kind), (.int .i64 p0.Path), (.int .i64 p0.Number), (.int .i64 p0.Of), (.int .i64 p0.From), u0_5, (.bool p0.Fin), (.int .i64 p0.Seen), (.int .i64 p0.Limit)], .int .i64 p1] I (G) (fun v J G' => ∃ ra0_5 rc0_5, v = .agg #[.int .i64 r.Kind, .int .i64 r.Path, .int .i64 r.Number, .int .i64 r.Of, .int .i64 r.From, .slice ra0_5 r.Data.length rc0_5, .bool r.Fin, .int .i64 r.Seen, .int .i64 r.Limit] ∧ IV J (.slice ra0_5 r.Data.length rc0_5) r.Data ∧ G = G') := by
  refine CallsS.enter Try.func34 rfl Try.ntmps34 rfl (fun w0 => ?_)
  have hI := Mem.le.refl I
  obtain ⟨a0_5, c0_5, rfl⟩ := hp0_5.hd
  unfold haulierplay_Packet at h
  refine WC.seq ?_
  refine WC.region ?_
  refine bx rfl rfl rfl (fun g1 => ?_)
  refine al Try.zeroValue41 rfl (fun g3 => ?_)
  refine WL.next ?_
  refine WC.seq ?_
  refine WC.region ?_
  refine asg rfl rfl ?_
  refine WL.next ?_
  refine WC.seq ?_
  refine WC.sub (r := [(1, (.int .i64 p1)), (2, (.pointer (some ⟨g1, 0, none⟩))), (4, (.pointer (some ⟨g3, 0, none⟩))), (5, (.func (.func 19) #[] #[]))]) ?_ ⟨rfl, rfl, rfl, rfl, trivial⟩
  obtain ⟨x5, e6, h⟩ := bnd h
  obtain ⟨x10, e11, h⟩ := bnd h
  obtain ⟨x15, e16, h⟩ := bnd h
  refine WC.front 1 ?_
  refine WC.drawn mo (nthL [[], [], [1], [0, 1, 2], [0, 1, 2, 3], [], [], [6], [0, 1, 2, 3, 5, 6, 7], [], [], [10], [0, 1, 2, 3, 5, 6, 7, 8, 9, 10, 11], [0, 1, 2, 3, 4, 5, 6, 7, 8, 9, 10, 11, 12], [], [0, 1, 2, 3, 4, 5, 6, 7, 8, 9, 10, 11, 12, 13, 14]]) (nthL [[], [], [1], [0, 2], [3], [], [], [6], [5, 7], [], [], [10], [9, 11], [4, 8, 12], [], [13, 14]]) (nthK [.val (.func (.func 19) #[] #[]), .val (.pointer (some ⟨g1, 0, none⟩)), .val (.int .i64 p0.Kind), .val (.int .i64 x5), .val (.int .i64 (w64 (1 + x5))), .val (.func (.func 19) #[] #[]), .val (.pointer (some ⟨g1, 1, none⟩)), .val (.int .i64 p0.Path), .val (.int .i64 x10), .val (.func (.func 19) #[] #[]), .val (.pointer (some ⟨g1, 2, none⟩)), .val (.int .i64 p0.Number), .val (.int .i64 x15), .val (.agg #[(.int .i64 (w64 (1 + x5))), (.int .i64 x10), (.int .i64 x15), (.int .i64 0), (.int .i64 0), (.slice none 0 0), (.bool false), (.int .i64 0), (.int .i64 0)]), .of (fun v _ => ∃ g, v = .pointer (some ⟨g, 0, none⟩)) (fun _ h => h), .any]) [⟨none, none, [2, 7, 11], [], fun _ => bl g1 #[(.int .i64 p0.Kind), (.int .i64 p0.Path), (.int .i64 p0.Number), (.int .i64 p0.Of), (.int .i64 p0.From), (.slice a0_5 p0.Data.length c0_5), (.bool p0.Fin), (.int .i64 p0.Seen), (.int .i64 p0.Limit)] 41⟩, ⟨(some 14), (some 15), [], [14], fun l => bl (pblk (vget l 0)) #[(.int .i64 0), (.int .i64 0), (.int .i64 0), (.int .i64 0), (.int .i64 0), (.slice none 0 0), (.bool false), (.int .i64 0), (.int .i64 0)] 41⟩, ⟨(some 15), none, [], [14], fun l => bl (pblk (vget l 0)) #[(.int .i64 (w64 (1 + x5))), (.int .i64 x10), (.int .i64 x15), (.int .i64 0), (.int .i64 0), (.slice none 0 0), (.bool false), (.int .i64 0), (.int .i64 0)] 41⟩] (by kernel_rfl) (by kernel_rfl) (by kernel_rfl) (H := bl g3 #[(.int .i64 0), (.int .i64 0), (.int .i64 0), (.int .i64 0), (.int .i64 0), (.slice none 0 0), (.bool false), (.int .i64 0), (.int .i64 0)] 41 :: G) rfl ⟨?_, ?_, ?_, ?_, ?_, ?_, ?_, ?_, ?_, ?_, ?_, ?_, ?_, ?_, ?_, ?_, trivial⟩ ?_
  · intro Q ρ I1 H hI1 hk hpost
    have hc := Mem.le.refl I1
    refine mv rfl rfl ?_
    refine WL.nil ?_
    exact hpost _ _ hc rfl _ (fun _ hd => by obtain rfl := Option.some.inj hd; exact ⟨rfl, trivial⟩)
  · intro Q ρ I1 H hI1 hk hpost
    have hc := Mem.le.refl I1
    refine fa fl41_0 rfl rfl ?_
    refine WL.nil ?_
    exact hpost _ _ hc rfl _ (fun _ hd => by obtain rfl := Option.some.inj hd; exact ⟨rfl, trivial⟩)
  · intro Q ρ I1 H hI1 hk hpost
    obtain ⟨_, -⟩ := hk
    have hc := Mem.le.refl I1
    refine ld 0 na3 rfl rfl rfl rfl ?_
    refine WL.nil ?_
    exact hpost _ _ hc rfl _ (fun _ hd => by obtain rfl := Option.some.inj hd; exact ⟨rfl, trivial⟩)
  · intro Q ρ I1 H hI1 hk hpost
    obtain ⟨_, _, -⟩ := hk
    have hc := Mem.le.refl I1
    refine callv cl19 rfl rfl rfl (W19 e6) (fun _ J7 _ hJ8 q9 => ?_)
    have hc := hc.trans hJ8
    obtain ⟨rfl, rfl⟩ := q9
    refine WL.nil ?_
    exact hpost _ _ hc rfl _ (fun _ hd => by obtain rfl := Option.some.inj hd; exact ⟨rfl, trivial⟩)
  · intro Q ρ I1 H hI1 hk hpost
    obtain ⟨_, -⟩ := hk
    have hc := Mem.le.refl I1
    refine ad rfl rfl rfl ?_
    refine WL.nil ?_
    exact hpost _ _ hc rfl _ (fun _ hd => by obtain rfl := Option.some.inj hd; exact ⟨rfl, trivial⟩)
  · intro Q ρ I1 H hI1 hk hpost
    have hc := Mem.le.refl I1
    refine mv rfl rfl ?_
    refine WL.nil ?_
    exact hpost _ _ hc rfl _ (fun _ hd => by obtain rfl := Option.some.inj hd; exact ⟨rfl, trivial⟩)
  · intro Q ρ I1 H hI1 hk hpost
    have hc := Mem.le.refl I1
    refine fa fl41_1 rfl rfl ?_
    refine WL.nil ?_
    exact hpost _ _ hc rfl _ (fun _ hd => by obtain rfl := Option.some.inj hd; exact ⟨rfl, trivial⟩)
  · intro Q ρ I1 H hI1 hk hpost
    obtain ⟨_, -⟩ := hk
    have hc := Mem.le.refl I1
    refine ld 0 na3 rfl rfl rfl rfl ?_
    refine WL.nil ?_
    exact hpost _ _ hc rfl _ (fun _ hd => by obtain rfl := Option.some.inj hd; exact ⟨rfl, trivial⟩)
  · intro Q ρ I1 H hI1 hk hpost
    obtain ⟨_, _, -⟩ := hk
    have hc := Mem.le.refl I1
    refine callv cl19 rfl rfl rfl (W19 e11) (fun _ J12 _ hJ13 q14 => ?_)
    have hc := hc.trans hJ13
    obtain ⟨rfl, rfl⟩ := q14
    refine WL.nil ?_
    exact hpost _ _ hc rfl _ (fun _ hd => by obtain rfl := Option.some.inj hd; exact ⟨rfl, trivial⟩)
  · intro Q ρ I1 H hI1 hk hpost
    have hc := Mem.le.refl I1
    refine mv rfl rfl ?_
    refine WL.nil ?_
    exact hpost _ _ hc rfl _ (fun _ hd => by obtain rfl := Option.some.inj hd; exact ⟨rfl, trivial⟩)
  · intro Q ρ I1 H hI1 hk hpost
    have hc := Mem.le.refl I1
    refine fa fl41_2 rfl rfl ?_
    refine WL.nil ?_
    exact hpost _ _ hc rfl _ (fun _ hd => by obtain rfl := Option.some.inj hd; exact ⟨rfl, trivial⟩)
  · intro Q ρ I1 H hI1 hk hpost
    obtain ⟨_, -⟩ := hk
    have hc := Mem.le.refl I1
    refine ld 0 na3 rfl rfl rfl rfl ?_
    refine WL.nil ?_
    exact hpost _ _ hc rfl _ (fun _ hd => by obtain rfl := Option.some.inj hd; exact ⟨rfl, trivial⟩)
  · intro Q ρ I1 H hI1 hk hpost
    obtain ⟨_, _, -⟩ := hk
    have hc := Mem.le.refl I1
    refine callv cl19 rfl rfl rfl (W19 e16) (fun _ J17 _ hJ18 q19 => ?_)
    have hc := hc.trans hJ18
    obtain ⟨rfl, rfl⟩ := q19
    refine WL.nil ?_
    exact hpost _ _ hc rfl _ (fun _ hd => by obtain rfl := Option.some.inj hd; exact ⟨rfl, trivial⟩)
  · intro Q ρ I1 H hI1 hk hpost
    obtain ⟨_, _, _, -⟩ := hk
    have hc := Mem.le.refl I1
    refine bu bt41 rfl rfl rfl ?_
    refine WL.nil ?_
    exact hpost _ _ hc rfl _ (fun _ hd => by obtain rfl := Option.some.inj hd; exact ⟨rfl, trivial⟩)
  · intro Q ρ I1 H hI1 hk hpost
    have hc := Mem.le.refl I1
    refine al Try.zeroValue41 rfl (fun g20 => ?_)
    refine WL.nil ?_
    exact hpost _ _ hc ⟨_, rfl⟩ _ (fun _ hd => by obtain rfl := Option.some.inj hd; exact ⟨rfl, trivial⟩)
  · intro Q ρ I1 H hI1 hk hpost
    obtain ⟨_, k14, -⟩ := hk
    have hc := Mem.le.refl I1
    refine WL.sub (r := [(6, (ρ 14)), (20, (.agg #[(.int .i64 (w64 (1 + x5))), (.int .i64 x10), (.int .i64 x15), (.int .i64 0), (.int .i64 0), (.slice none 0 0), (.bool false), (.int .i64 0), (.int .i64 0)]))]) ?_ ⟨rfl, rfl, trivial⟩
    refine WL.conv (H := bl (pblk (ρ 14)) #[(.int .i64 0), (.int .i64 0), (.int .i64 0), (.int .i64 0), (.int .i64 0), (.slice none 0 0), (.bool false), (.int .i64 0), (.int .i64 0)] 41 :: H) (fun _ h => h) ?_
    obtain ⟨gp14, ex14⟩ := k14
    try rw [ex14]
    refine sta (C' := #[(.int .i64 (w64 (1 + x5))), (.int .i64 x10), (.int .i64 x15), (.int .i64 0), (.int .i64 0), (.slice none 0 0), (.bool false), (.int .i64 0), (.int .i64 0)]) sz41 rfl rfl rfl rfl rfl rfl ?_
    refine WL.conv (H := bl (pblk (ρ 14)) #[(.int .i64 (w64 (1 + x5))), (.int .i64 x10), (.int .i64 x15), (.int .i64 0), (.int .i64 0), (.slice none 0 0), (.bool false), (.int .i64 0), (.int .i64 0)] 41 :: H) (fun _ h => by revert ex14 h; generalize ρ 14 = v14; intro e14 h; subst e14; exact h) ?_
    refine WL.nil ?_
    exact hpost undef _ hc trivial _ (fun _ hd => by cases hd)
  rintro ρ J22 hJ23 ⟨_, _, _, _, _, _, _, _, _, _, _, _, _, _, k14, -⟩
  refine WX.sub (r := [(1, (.int .i64 p1)), (2, (.pointer (some ⟨g1, 0, none⟩))), (4, (.pointer (some ⟨g3, 0, none⟩))), (5, (.func (.func 19) #[] #[])), (6, (ρ 14))]) ?_ ⟨rfl, rfl, rfl, rfl, rfl, trivial⟩
  refine WX.is (H := bl g1 #[(.int .i64 p0.Kind), (.int .i64 p0.Path), (.int .i64 p0.Number), (.int .i64 p0.Of), (.int .i64 p0.From), (.slice a0_5 p0.Data.length c0_5), (.bool p0.Fin), (.int .i64 p0.Seen), (.int .i64 p0.Limit)] 41 :: bl (pblk (ρ 14)) #[(.int .i64 (w64 (1 + x5))), (.int .i64 x10), (.int .i64 x15), (.int .i64 0), (.int .i64 0), (.slice none 0 0), (.bool false), (.int .i64 0), (.int .i64 0)] 41 :: bl g3 #[(.int .i64 0), (.int .i64 0), (.int .i64 0), (.int .i64 0), (.int .i64 0), (.slice none 0 0), (.bool false), (.int .i64 0), (.int .i64 0)] 41 :: G) rfl ?_
  generalize ρ 14 = v14 at *; obtain ⟨q24, rfl⟩ := k14
  have hI := hI.trans hJ23
  replace hp0_5 := hp0_5.up hJ23
  refine WX.sub (r := [(1, (.int .i64 p1)), (2, (.pointer (some ⟨g1, 0, none⟩))), (4, (.pointer (some ⟨g3, 0, none⟩))), (5, (.func (.func 19) #[] #[])), (6, (.pointer (some ⟨q24, 0, none⟩)))]) ?_ ⟨rfl, rfl, rfl, rfl, rfl, trivial⟩
  refine WX.is (H := bl g1 #[(.int .i64 p0.Kind), (.int .i64 p0.Path), (.int .i64 p0.Number), (.int .i64 p0.Of), (.int .i64 p0.From), (.slice a0_5 p0.Data.length c0_5), (.bool p0.Fin), (.int .i64 p0.Seen), (.int .i64 p0.Limit)] 41 :: bl q24 #[(.int .i64 (w64 (1 + x5))), (.int .i64 x10), (.int .i64 x15), (.int .i64 0), (.int .i64 0), (.slice none 0 0), (.bool false), (.int .i64 0), (.int .i64 0)] 41 :: bl g3 #[(.int .i64 0), (.int .i64 0), (.int .i64 0), (.int .i64 0), (.int .i64 0), (.slice none 0 0), (.bool false), (.int .i64 0), (.int .i64 0)] 41 :: G) rfl ?_
  refine WX.then_ ?_
  refine WC.seq ?_
  refine WC.seq ?_
  refine WC.region ?_
  refine fa fl41_0 rfl rfl ?_
  refine ld 1 na3 rfl rfl rfl rfl ?_
  refine WL.next ?_
  obtain ⟨j81, hj81, h⟩ := bnd h
  refine WC.joinQ (σ := Int × Int × (List UInt8) × Bool × Int × Int × (Option Addr) × Nat) (fun (x72, x73, x74, x78, x79, x80, a75, c76) => [(1, (.int .i64 p1)), (2, (.pointer (some ⟨g1, 0, none⟩))), (4, (.pointer (some ⟨g3, 0, none⟩))), (5, (.func (.func 19) #[] #[])), (6, (.pointer (some ⟨q24, 0, none⟩)))]) (fun (x72, x73, x74, x78, x79, x80, a75, c76) => bl g1 #[(.int .i64 p0.Kind), (.int .i64 p0.Path), (.int .i64 p0.Number), (.int .i64 p0.Of), (.int .i64 p0.From), (.slice a0_5 p0.Data.length c0_5), (.bool p0.Fin), (.int .i64 p0.Seen), (.int .i64 p0.Limit)] 41 :: bl q24 #[(.int .i64 (w64 (1 + x5))), (.int .i64 x10), (.int .i64 x15), (.int .i64 x72), (.int .i64 x73), (.slice a75 x74.length c76), (.bool x78), (.int .i64 x79), (.int .i64 x80)] 41 :: bl g3 #[(.int .i64 0), (.int .i64 0), (.int .i64 0), (.int .i64 0), (.int .i64 0), (.slice none 0 0), (.bool false), (.int .i64 0), (.int .i64 0)] 41 :: G) (fun (x72, x73, x74, x78, x79, x80, a75, c76) J => (x72, x73, x74, x78, x79, x80) = j81 ∧ IV J (.slice a75 x74.length c76) x74) (fun kj81 => ?_) ?_
  · skip
    have lj81 := Mem.le.refl J22
    refine WC.block ?_
    refine WC.seq ?_
    refine WC.region ?_
    refine eq rfl rfl rfl ?_
    refine asg rfl rfl ?_
    refine WL.next ?_
    refine WC.ite rfl hj81 (fun k82 hj81 => ?_) (fun k82 hj81 => ?_)
    · skip
      refine WC.region ?_
      refine mv rfl rfl ?_
      refine fa fl41_3 rfl rfl ?_
      refine ld 0 na3 rfl rfl rfl rfl ?_
      obtain ⟨x83, e84, hj81⟩ := bnd hj81
      refine callv cl19 rfl rfl rfl (W19 e84) (fun _ J85 _ hJ86 q87 => ?_)
      have hI := hI.trans hJ86
      have lj81 := lj81.trans hJ86
      replace hp0_5 := hp0_5.up hJ86
      obtain ⟨rfl, rfl⟩ := q87
      refine fa fl41_3 rfl rfl ?_
      refine WL.front 1 ?_
      refine st (C' := #[(.int .i64 (w64 (1 + x5))), (.int .i64 x10), (.int .i64 x15), (.int .i64 x83), (.int .i64 0), (.slice none 0 0), (.bool false), (.int .i64 0), (.int .i64 0)]) sz3 rfl rfl rfl rfl rfl ?_
      refine WL.nil ?_
      refine WX.block_normal ?_
      refine WX.front 2 ?_
      refine WX.front 1 ?_
      refine WX.front 2 ?_
      exact (kj81 ⟨x83, 0, ([] : List UInt8), false, 0, 0, _, _⟩ _ lj81 ⟨Option.some.inj hj81, (IV.nil _ : IV _ _ ([] : List UInt8))⟩).sub ⟨rfl, rfl, rfl, rfl, rfl, trivial⟩
    refine WC.seq ?_
    refine WC.region ?_
    refine eq rfl rfl rfl ?_
    refine asg rfl rfl ?_
    refine WL.next ?_
    refine WC.ite rfl hj81 (fun k88 hj81 => ?_) (fun k88 hj81 => ?_)
    · skip
      refine WC.sub (r := [(1, (.int .i64 p1)), (2, (.pointer (some ⟨g1, 0, none⟩))), (4, (.pointer (some ⟨g3, 0, none⟩))), (5, (.func (.func 19) #[] #[])), (6, (.pointer (some ⟨q24, 0, none⟩)))]) ?_ ⟨rfl, rfl, rfl, rfl, rfl, trivial⟩
      obtain ⟨x89, e90, hj81⟩ := bnd hj81
      obtain ⟨x94, e95, hj81⟩ := bnd hj81
      refine WC.front 1 ?_
      refine WC.front 1 ?_
      refine WC.drawn mo (nthL [[], [], [1], [0, 1, 2], [], [4], [0, 1, 2, 3, 4, 5], [], [7], [0, 1, 2, 3], [0, 1, 2, 3, 4, 5, 6, 9], [0, 1, 2, 3, 4, 5, 6, 9, 10], [0, 1, 2, 3, 4, 5, 6, 9, 10, 11], [0, 1, 2, 3, 4, 5, 6, 7, 8, 9, 10, 11, 12], [0, 1, 2, 3, 4, 5, 6, 7, 8, 9, 10, 11, 12, 13]]) (nthL [[], [], [1], [0, 2], [], [4], [5], [], [7], [], [3, 9], [], [6, 11], [], [8, 13]]) (nthK [.val (.func (.func 19) #[] #[]), .val (.pointer (some ⟨g1, 4, none⟩)), .val (.int .i64 p0.From), .val (.int .i64 x89), .val (.pointer (some ⟨g1, 5, none⟩)), .val (.slice a0_5 p0.Data.length c0_5), .imm x94, .val (.pointer (some ⟨g1, 6, none⟩)), .val (.bool p0.Fin), .val (.pointer (some ⟨q24, 4, none⟩)), .any, .val (.pointer (some ⟨q24, 5, none⟩)), .any, .val (.pointer (some ⟨q24, 6, none⟩)), .any]) [⟨none, none, [2, 5, 8], [], fun _ => bl g1 #[(.int .i64 p0.Kind), (.int .i64 p0.Path), (.int .i64 p0.Number), (.int .i64 p0.Of), (.int .i64 p0.From), (.slice a0_5 p0.Data.length c0_5), (.bool p0.Fin), (.int .i64 p0.Seen), (.int .i64 p0.Limit)] 41⟩, ⟨none, (some 10), [], [], fun _ => bl q24 #[(.int .i64 (w64 (1 + x5))), (.int .i64 x10), (.int .i64 x15), (.int .i64 0), (.int .i64 0), (.slice none 0 0), (.bool false), (.int .i64 0), (.int .i64 0)] 41⟩, ⟨(some 10), (some 12), [], [], fun _ => bl q24 #[(.int .i64 (w64 (1 + x5))), (.int .i64 x10), (.int .i64 x15), (.int .i64 0), (.int .i64 x89), (.slice none 0 0), (.bool false), (.int .i64 0), (.int .i64 0)] 41⟩, ⟨(some 12), (some 14), [], [6], fun l => bl q24 #[(.int .i64 (w64 (1 + x5))), (.int .i64 x10), (.int .i64 x15), (.int .i64 0), (.int .i64 x89), (vget l 0), (.bool false), (.int .i64 0), (.int .i64 0)] 41⟩, ⟨(some 14), none, [], [6], fun l => bl q24 #[(.int .i64 (w64 (1 + x5))), (.int .i64 x10), (.int .i64 x15), (.int .i64 0), (.int .i64 x89), (vget l 0), (.bool p0.Fin), (.int .i64 0), (.int .i64 0)] 41⟩] (by kernel_rfl) (by kernel_rfl) (by kernel_rfl) (H := bl g3 #[(.int .i64 0), (.int .i64 0), (.int .i64 0), (.int .i64 0), (.int .i64 0), (.slice none 0 0), (.bool false), (.int .i64 0), (.int .i64 0)] 41 :: G) rfl ⟨?_, ?_, ?_, ?_, ?_, ?_, ?_, ?_, ?_, ?_, ?_, ?_, ?_, ?_, ?_, trivial⟩ ?_
      · intro Q ρ I1 H hI1 hk hpost
        have hc := Mem.le.refl I1
        refine mv rfl rfl ?_
        refine WL.nil ?_
        exact hpost _ _ hc rfl _ (fun _ hd => by obtain rfl := Option.some.inj hd; exact ⟨rfl, trivial⟩)
      · intro Q ρ I1 H hI1 hk hpost
        have hc := Mem.le.refl I1
        refine fa fl41_4 rfl rfl ?_
        refine WL.nil ?_
        exact hpost _ _ hc rfl _ (fun _ hd => by obtain rfl := Option.some.inj hd; exact ⟨rfl, trivial⟩)
      · intro Q ρ I1 H hI1 hk hpost
        obtain ⟨_, -⟩ := hk
        have hc := Mem.le.refl I1
        refine ld 0 na3 rfl rfl rfl rfl ?_
        refine WL.nil ?_
        exact hpost _ _ hc rfl _ (fun _ hd => by obtain rfl := Option.some.inj hd; exact ⟨rfl, trivial⟩)
      · intro Q ρ I1 H hI1 hk hpost
        obtain ⟨_, _, -⟩ := hk
        have hc := Mem.le.refl I1
        refine callv cl19 rfl rfl rfl (W19 e90) (fun _ J91 _ hJ92 q93 => ?_)
        have hc := hc.trans hJ92
        obtain ⟨rfl, rfl⟩ := q93
        refine WL.nil ?_
        exact hpost _ _ hc rfl _ (fun _ hd => by obtain rfl := Option.some.inj hd; exact ⟨rfl, trivial⟩)
      · intro Q ρ I1 H hI1 hk hpost
        have hc := Mem.le.refl I1
        refine fa fl41_5 rfl rfl ?_
        refine WL.nil ?_
        exact hpost _ _ hc rfl _ (fun _ hd => by obtain rfl := Option.some.inj hd; exact ⟨rfl, trivial⟩)
      · intro Q ρ I1 H hI1 hk hpost
        obtain ⟨_, -⟩ := hk
        have hc := Mem.le.refl I1
        refine ld 0 na22 rfl rfl rfl rfl ?_
        refine WL.nil ?_
        exact hpost _ _ hc rfl _ (fun _ hd => by obtain rfl := Option.some.inj hd; exact ⟨rfl, trivial⟩)
      · intro Q ρ I1 H hI1 hk hpost
        obtain ⟨_, -⟩ := hk
        replace hp0_5 := hp0_5.up hI1
        have hc := Mem.le.refl I1
        refine call cl15 rfl rfl (W15 e95 hp0_5) (fun _ J96 _ hJ97 q98 => ?_)
        have hc := hc.trans hJ97
        replace hp0_5 := hp0_5.up hJ97
        obtain ⟨a99, c100, rfl, rfl⟩ := q98
        refine WL.freeze (fun J102 hJ103 h104 => ?_)
        have hc := hc.trans hJ103
        replace hp0_5 := hp0_5.up hJ103
        refine WL.nil ?_
        exact hpost _ _ hc h104 _ (fun _ hd => by obtain rfl := Option.some.inj hd; exact ⟨rfl, trivial⟩)
      · intro Q ρ I1 H hI1 hk hpost
        have hc := Mem.le.refl I1
        refine fa fl41_6 rfl rfl ?_
        refine WL.nil ?_
        exact hpost _ _ hc rfl _ (fun _ hd => by obtain rfl := Option.some.inj hd; exact ⟨rfl, trivial⟩)
      · intro Q ρ I1 H hI1 hk hpost
        obtain ⟨_, -⟩ := hk
        have hc := Mem.le.refl I1
        refine ld 0 na4 rfl rfl rfl rfl ?_
        refine WL.nil ?_
        exact hpost _ _ hc rfl _ (fun _ hd => by obtain rfl := Option.some.inj hd; exact ⟨rfl, trivial⟩)
      · intro Q ρ I1 H hI1 hk hpost
        have hc := Mem.le.refl I1
        refine fa fl41_4 rfl rfl ?_
        refine WL.nil ?_
        exact hpost _ _ hc rfl _ (fun _ hd => by obtain rfl := Option.some.inj hd; exact ⟨rfl, trivial⟩)
      · intro Q ρ I1 H hI1 hk hpost
        obtain ⟨_, _, -⟩ := hk
        have hc := Mem.le.refl I1
        refine st (C' := #[(.int .i64 (w64 (1 + x5))), (.int .i64 x10), (.int .i64 x15), (.int .i64 0), (.int .i64 x89), (.slice none 0 0), (.bool false), (.int .i64 0), (.int .i64 0)]) sz3 rfl rfl rfl rfl rfl ?_
        refine WL.nil ?_
        exact hpost undef _ hc trivial _ (fun _ hd => by cases hd)
      · intro Q ρ I1 H hI1 hk hpost
        have hc := Mem.le.refl I1
        refine fa fl41_5 rfl rfl ?_
        refine WL.nil ?_
        exact hpost _ _ hc rfl _ (fun _ hd => by obtain rfl := Option.some.inj hd; exact ⟨rfl, trivial⟩)
      · intro Q ρ I1 H hI1 hk hpost
        obtain ⟨k6, _, -⟩ := hk
        have hc := Mem.le.refl I1
        refine WL.sub (r := [(38, (ρ 6)), (42, (.pointer (some ⟨q24, 5, none⟩)))]) ?_ ⟨rfl, rfl, trivial⟩
        refine WL.conv (H := bl q24 #[(.int .i64 (w64 (1 + x5))), (.int .i64 x10), (.int .i64 x15), (.int .i64 0), (.int .i64 x89), (.slice none 0 0), (.bool false), (.int .i64 0), (.int .i64 0)] 41 :: H) (fun _ h => h) ?_
        obtain ⟨a6_0, c6_0, ex6⟩ := k6.hd
        try rw [ex6]
        refine st (C' := #[(.int .i64 (w64 (1 + x5))), (.int .i64 x10), (.int .i64 x15), (.int .i64 0), (.int .i64 x89), (.slice a6_0 x94.length c6_0), (.bool false), (.int .i64 0), (.int .i64 0)]) sz22 rfl rfl rfl rfl rfl ?_
        refine WL.conv (H := bl q24 #[(.int .i64 (w64 (1 + x5))), (.int .i64 x10), (.int .i64 x15), (.int .i64 0), (.int .i64 x89), (ρ 6), (.bool false), (.int .i64 0), (.int .i64 0)] 41 :: H) (fun _ h => by revert ex6 h; generalize ρ 6 = v6; intro e6 h; subst e6; exact h) ?_
        refine WL.nil ?_
        exact hpost undef _ hc trivial _ (fun _ hd => by cases hd)
      · intro Q ρ I1 H hI1 hk hpost
        have hc := Mem.le.refl I1
        refine fa fl41_6 rfl rfl ?_
        refine WL.nil ?_
        exact hpost _ _ hc rfl _ (fun _ hd => by obtain rfl := Option.some.inj hd; exact ⟨rfl, trivial⟩)
      · intro Q ρ I1 H hI1 hk hpost
        obtain ⟨_, _, -⟩ := hk
        have hc := Mem.le.refl I1
        refine st (C' := #[(.int .i64 (w64 (1 + x5))), (.int .i64 x10), (.int .i64 x15), (.int .i64 0), (.int .i64 x89), (ρ 6), (.bool p0.Fin), (.int .i64 0), (.int .i64 0)]) sz4 rfl rfl rfl rfl rfl ?_
        refine WL.nil ?_
        exact hpost undef _ hc trivial _ (fun _ hd => by cases hd)
      rintro ρ J105 hJ106 ⟨_, _, _, _, _, _, k6, -⟩
      refine WX.sub (r := [(1, (.int .i64 p1)), (2, (.pointer (some ⟨g1, 0, none⟩))), (4, (.pointer (some ⟨g3, 0, none⟩))), (5, (.func (.func 19) #[] #[])), (6, (.pointer (some ⟨q24, 0, none⟩)))]) ?_ ⟨rfl, rfl, rfl, rfl, rfl, trivial⟩
      refine WX.is (H := bl g1 #[(.int .i64 p0.Kind), (.int .i64 p0.Path), (.int .i64 p0.Number), (.int .i64 p0.Of), (.int .i64 p0.From), (.slice a0_5 p0.Data.length c0_5), (.bool p0.Fin), (.int .i64 p0.Seen), (.int .i64 p0.Limit)] 41 :: bl q24 #[(.int .i64 (w64 (1 + x5))), (.int .i64 x10), (.int .i64 x15), (.int .i64 0), (.int .i64 x89), (ρ 6), (.bool p0.Fin), (.int .i64 0), (.int .i64 0)] 41 :: bl g3 #[(.int .i64 0), (.int .i64 0), (.int .i64 0), (.int .i64 0), (.int .i64 0), (.slice none 0 0), (.bool false), (.int .i64 0), (.int .i64 0)] 41 :: G) rfl ?_
      have hI := hI.trans hJ106
      have lj81 := lj81.trans hJ106
      replace hp0_5 := hp0_5.up hJ106
      have h110 : IV J105 (ρ 6) x94 := k6; clear k6
      generalize ρ 6 = uv107 at *; obtain ⟨a108, c109, rfl⟩ := h110.hd
      refine WX.block_normal ?_
      refine WX.front 2 ?_
      refine WX.front 2 ?_
      refine WX.front 2 ?_
      exact (kj81 ⟨0, x89, x94, p0.Fin, 0, 0, _, _⟩ _ lj81 ⟨Option.some.inj hj81, h110⟩).sub ⟨rfl, rfl, rfl, rfl, rfl, trivial⟩
    refine WC.seq ?_
    refine WC.region ?_
    refine eq rfl rfl rfl ?_
    refine asg rfl rfl ?_
    refine WL.next ?_
    refine WC.ite rfl hj81 (fun k111 hj81 => ?_) (fun k111 hj81 => ?_)
    · skip
      refine WC.sub (r := [(1, (.int .i64 p1)), (2, (.pointer (some ⟨g1, 0, none⟩))), (4, (.pointer (some ⟨g3, 0, none⟩))), (5, (.func (.func 19) #[] #[])), (6, (.pointer (some ⟨q24, 0, none⟩)))]) ?_ ⟨rfl, rfl, rfl, rfl, rfl, trivial⟩
      obtain ⟨x112, e113, hj81⟩ := bnd hj81
      obtain ⟨x117, e118, hj81⟩ := bnd hj81
      obtain ⟨x122, e123, hj81⟩ := bnd hj81
      refine WC.front 1 ?_
      refine WC.front 1 ?_
      refine WC.drawn mo (nthL [[], [], [1], [0, 1, 2], [], [], [5], [0, 1, 2, 3, 4, 5, 6], [], [], [9], [0, 1, 2, 3, 4, 5, 6, 7, 8, 9, 10], [0, 1, 2, 3], [0, 1, 2, 3, 4, 5, 6, 7, 8, 9, 10, 11, 12], [0, 1, 2, 3, 4, 5, 6, 7, 8, 9, 10, 11, 12, 13], [0, 1, 2, 3, 4, 5, 6, 7, 8, 9, 10, 11, 12, 13, 14], [0, 1, 2, 3, 4, 5, 6, 7, 8, 9, 10, 11, 12, 13, 14, 15], [0, 1, 2, 3, 4, 5, 6, 7, 8, 9, 10, 11, 12, 13, 14, 15, 16]]) (nthL [[], [], [1], [0, 2], [], [], [5], [4, 6], [], [], [9], [8, 10], [], [3, 12], [], [7, 14], [], [11, 16]]) (nthK [.val (.func (.func 19) #[] #[]), .val (.pointer (some ⟨g1, 3, none⟩)), .val (.int .i64 p0.Of), .val (.int .i64 x112), .val (.func (.func 19) #[] #[]), .val (.pointer (some ⟨g1, 7, none⟩)), .val (.int .i64 p0.Seen), .val (.int .i64 x117), .val (.func (.func 19) #[] #[]), .val (.pointer (some ⟨g1, 8, none⟩)), .val (.int .i64 p0.Limit), .val (.int .i64 x122), .val (.pointer (some ⟨q24, 3, none⟩)), .any, .val (.pointer (some ⟨q24, 7, none⟩)), .any, .val (.pointer (some ⟨q24, 8, none⟩)), .any]) [⟨none, none, [2, 6, 10], [], fun _ => bl g1 #[(.int .i64 p0.Kind), (.int .i64 p0.Path), (.int .i64 p0.Number), (.int .i64 p0.Of), (.int .i64 p0.From), (.slice a0_5 p0.Data.length c0_5), (.bool p0.Fin), (.int .i64 p0.Seen), (.int .i64 p0.Limit)] 41⟩, ⟨none, (some 13), [], [], fun _ => bl q24 #[(.int .i64 (w64 (1 + x5))), (.int .i64 x10), (.int .i64 x15), (.int .i64 0), (.int .i64 0), (.slice none 0 0), (.bool false), (.int .i64 0), (.int .i64 0)] 41⟩, ⟨(some 13), (some 15), [], [], fun _ => bl q24 #[(.int .i64 (w64 (1 + x5))), (.int .i64 x10), (.int .i64 x15), (.int .i64 x112), (.int .i64 0), (.slice none 0 0), (.bool false), (.int .i64 0), (.int .i64 0)] 41⟩, ⟨(some 15), (some 17), [], [], fun _ => bl q24 #[(.int .i64 (w64 (1 + x5))), (.int .i64 x10), (.int .i64 x15), (.int .i64 x112), (.int .i64 0), (.slice none 0 0), (.bool false), (.int .i64 x117), (.int .i64 0)] 41⟩, ⟨(some 17), none, [], [], fun _ => bl q24 #[(.int .i64 (w64 (1 + x5))), (.int .i64 x10), (.int .i64 x15), (.int .i64 x112), (.int .i64 0), (.slice none 0 0), (.bool false), (.int .i64 x117), (.int .i64 x122)] 41⟩] (by kernel_rfl) (by kernel_rfl) (by kernel_rfl) (H := bl g3 #[(.int .i64 0), (.int .i64 0), (.int .i64 0), (.int .i64 0), (.int .i64 0), (.slice none 0 0), (.bool false), (.int .i64 0), (.int .i64 0)] 41 :: G) rfl ⟨?_, ?_, ?_, ?_, ?_, ?_, ?_, ?_, ?_, ?_, ?_, ?_, ?_, ?_, ?_, ?_, ?_, ?_, trivial⟩ ?_
      · intro Q ρ I1 H hI1 hk hpost
        have hc := Mem.le.refl I1
        refine mv rfl rfl ?_
        refine WL.nil ?_
        exact hpost _ _ hc rfl _ (fun _ hd => by obtain rfl := Option.some.inj hd; exact ⟨rfl, trivial⟩)
      · intro Q ρ I1 H hI1 hk hpost
        have hc := Mem.le.refl I1
        refine fa fl41_3 rfl rfl ?_
        refine WL.nil ?_
        exact hpost _ _ hc rfl _ (fun _ hd => by obtain rfl := Option.some.inj hd; exact ⟨rfl, trivial⟩)
      · intro Q ρ I1 H hI1 hk hpost
        obtain ⟨_, -⟩ := hk
        have hc := Mem.le.refl I1
        refine ld 0 na3 rfl rfl rfl rfl ?_
        refine WL.nil ?_
        exact hpost _ _ hc rfl _ (fun _ hd => by obtain rfl := Option.some.inj hd; exact ⟨rfl, trivial⟩)
      · intro Q ρ I1 H hI1 hk hpost
        obtain ⟨_, _, -⟩ := hk
        have hc := Mem.le.refl I1
        refine callv cl19 rfl rfl rfl (W19 e113) (fun _ J114 _ hJ115 q116 => ?_)
        have hc := hc.trans hJ115
        obtain ⟨rfl, rfl⟩ := q116
        refine WL.nil ?_
        exact hpost _ _ hc rfl _ (fun _ hd => by obtain rfl := Option.some.inj hd; exact ⟨rfl, trivial⟩)
      · intro Q ρ I1 H hI1 hk hpost
        have hc := Mem.le.refl I1
        refine mv rfl rfl ?_
        refine WL.nil ?_
        exact hpost _ _ hc rfl _ (fun _ hd => by obtain rfl := Option.some.inj hd; exact ⟨rfl, trivial⟩)
      · intro Q ρ I1 H hI1 hk hpost
        have hc := Mem.le.refl I1
        refine fa fl41_7 rfl rfl ?_
        refine WL.nil ?_
        exact hpost _ _ hc rfl _ (fun _ hd => by obtain rfl := Option.some.inj hd; exact ⟨rfl, trivial⟩)
      · intro Q ρ I1 H hI1 hk hpost
        obtain ⟨_, -⟩ := hk
        have hc := Mem.le.refl I1
        refine ld 0 na3 rfl rfl rfl rfl ?_
        refine WL.nil ?_
        exact hpost _ _ hc rfl _ (fun _ hd => by obtain rfl := Option.some.inj hd; exact ⟨rfl, trivial⟩)
      · intro Q ρ I1 H hI1 hk hpost
        obtain ⟨_, _, -⟩ := hk
        have hc := Mem.le.refl I1
        refine callv cl19 rfl rfl rfl (W19 e118) (fun _ J119 _ hJ120 q121 => ?_)
        have hc := hc.trans hJ120
        obtain ⟨rfl, rfl⟩ := q121
        refine WL.nil ?_
        exact hpost _ _ hc rfl _ (fun _ hd => by obtain rfl := Option.some.inj hd; exact ⟨rfl, trivial⟩)
      · intro Q ρ I1 H hI1 hk hpost
        have hc := Mem.le.refl I1
        refine mv rfl rfl ?_
        refine WL.nil ?_
        exact hpost _ _ hc rfl _ (fun _ hd => by obtain rfl := Option.some.inj hd; exact ⟨rfl, trivial⟩)
      · intro Q ρ I1 H hI1 hk hpost
        have hc := Mem.le.refl I1
        refine fa fl41_8 rfl rfl ?_
        refine WL.nil ?_
        exact hpost _ _ hc rfl _ (fun _ hd => by obtain rfl := Option.some.inj hd; exact ⟨rfl, trivial⟩)
      · intro Q ρ I1 H hI1 hk hpost
        obtain ⟨_, -⟩ := hk
        have hc := Mem.le.refl I1
        refine ld 0 na3 rfl rfl rfl rfl ?_
        refine WL.nil ?_
        exact hpost _ _ hc rfl _ (fun _ hd => by obtain rfl := Option.some.inj hd; exact ⟨rfl, trivial⟩)
      · intro Q ρ I1 H hI1 hk hpost
        obtain ⟨_, _, -⟩ := hk
        have hc := Mem.le.refl I1
        refine callv cl19 rfl rfl rfl (W19 e123) (fun _ J124 _ hJ125 q126 => ?_)
        have hc := hc.trans hJ125
        obtain ⟨rfl, rfl⟩ := q126
        refine WL.nil ?_
        exact hpost _ _ hc rfl _ (fun _ hd => by obtain rfl := Option.some.inj hd; exact ⟨rfl, trivial⟩)
      · intro Q ρ I1 H hI1 hk hpost
        have hc := Mem.le.refl I1
        refine fa fl41_3 rfl rfl ?_
        refine WL.nil ?_
        exact hpost _ _ hc rfl _ (fun _ hd => by obtain rfl := Option.some.inj hd; exact ⟨rfl, trivial⟩)
      · intro Q ρ I1 H hI1 hk hpost
        obtain ⟨_, _, -⟩ := hk
        have hc := Mem.le.refl I1
        refine st (C' := #[(.int .i64 (w64 (1 + x5))), (.int .i64 x10), (.int .i64 x15), (.int .i64 x112), (.int .i64 0), (.slice none 0 0), (.bool false), (.int .i64 0), (.int .i64 0)]) sz3 rfl rfl rfl rfl rfl ?_
        refine WL.nil ?_
        exact hpost undef _ hc trivial _ (fun _ hd => by cases hd)
      · intro Q ρ I1 H hI1 hk hpost
        have hc := Mem.le.refl I1
        refine fa fl41_7 rfl rfl ?_
        refine WL.nil ?_
        exact hpost _ _ hc rfl _ (fun _ hd => by obtain rfl := Option.some.inj hd; exact ⟨rfl, trivial⟩)
      · intro Q ρ I1 H hI1 hk hpost
        obtain ⟨_, _, -⟩ := hk
        have hc := Mem.le.refl I1
        refine st (C' := #[(.int .i64 (w64 (1 + x5))), (.int .i64 x10), (.int .i64 x15), (.int .i64 x112), (.int .i64 0), (.slice none 0 0), (.bool false), (.int .i64 x117), (.int .i64 0)]) sz3 rfl rfl rfl rfl rfl ?_
        refine WL.nil ?_
        exact hpost undef _ hc trivial _ (fun _ hd => by cases hd)
      · intro Q ρ I1 H hI1 hk hpost
        have hc := Mem.le.refl I1
        refine fa fl41_8 rfl rfl ?_
        refine WL.nil ?_
        exact hpost _ _ hc rfl _ (fun _ hd => by obtain rfl := Option.some.inj hd; exact ⟨rfl, trivial⟩)
      · intro Q ρ I1 H hI1 hk hpost
        obtain ⟨_, _, -⟩ := hk
        have hc := Mem.le.refl I1
        refine st (C' := #[(.int .i64 (w64 (1 + x5))), (.int .i64 x10), (.int .i64 x15), (.int .i64 x112), (.int .i64 0), (.slice none 0 0), (.bool false), (.int .i64 x117), (.int .i64 x122)]) sz3 rfl rfl rfl rfl rfl ?_
        refine WL.nil ?_
        exact hpost undef _ hc trivial _ (fun _ hd => by cases hd)
      rintro ρ J127 hJ128 -
      refine WX.sub (r := [(1, (.int .i64 p1)), (2, (.pointer (some ⟨g1, 0, none⟩))), (4, (.pointer (some ⟨g3, 0, none⟩))), (5, (.func (.func 19) #[] #[])), (6, (.pointer (some ⟨q24, 0, none⟩)))]) ?_ ⟨rfl, rfl, rfl, rfl, rfl, trivial⟩
      refine WX.is (H := bl g1 #[(.int .i64 p0.Kind), (.int .i64 p0.Path), (.int .i64 p0.Number), (.int .i64 p0.Of), (.int .i64 p0.From), (.slice a0_5 p0.Data.length c0_5), (.bool p0.Fin), (.int .i64 p0.Seen), (.int .i64 p0.Limit)] 41 :: bl q24 #[(.int .i64 (w64 (1 + x5))), (.int .i64 x10), (.int .i64 x15), (.int .i64 x112), (.int .i64 0), (.slice none 0 0), (.bool false), (.int .i64 x117), (.int .i64 x122)] 41 :: bl g3 #[(.int .i64 0), (.int .i64 0), (.int .i64 0), (.int .i64 0), (.int .i64 0), (.slice none 0 0), (.bool false), (.int .i64 0), (.int .i64 0)] 41 :: G) rfl ?_
      have hI := hI.trans hJ128
      have lj81 := lj81.trans hJ128
      replace hp0_5 := hp0_5.up hJ128
      refine WX.block_normal ?_
      refine WX.front 2 ?_
      refine WX.front 2 ?_
      refine WX.front 2 ?_
      exact (kj81 ⟨x112, 0, ([] : List UInt8), false, x117, x122, _, _⟩ _ lj81 ⟨Option.some.inj hj81, (IV.nil _ : IV _ _ ([] : List UInt8))⟩).sub ⟨rfl, rfl, rfl, rfl, rfl, trivial⟩
    refine WC.skip ?_
    refine WX.block_normal ?_
    refine WX.front 2 ?_
    refine WX.front 2 ?_
    refine WX.front 2 ?_
    exact (kj81 ⟨0, 0, ([] : List UInt8), false, 0, 0, _, _⟩ _ lj81 ⟨Option.some.inj hj81, (IV.nil _ : IV _ _ ([] : List UInt8))⟩).sub ⟨rfl, rfl, rfl, rfl, rfl, trivial⟩
  rintro ⟨x72, x73, x74, x78, x79, x80, a75, c76⟩ J129 hJ130 ⟨rfl, h77⟩
  have hI := hI.trans hJ130
  replace hp0_5 := hp0_5.up hJ130
  refine WX.then_ ?_
  refine WC.seq ?_
  refine WC.seq ?_
  refine WC.region ?_
  refine mv rfl rfl ?_
  refine mv rfl rfl ?_
  obtain ⟨x131, e132, h⟩ := bnd h
  refine callv cl19 rfl rfl rfl (W19 e132) (fun _ J133 _ hJ134 q135 => ?_)
  have hI := hI.trans hJ134
  replace hp0_5 := hp0_5.up hJ134; replace h77 := h77.up hJ134
  obtain ⟨rfl, rfl⟩ := q135
  refine WL.next ?_
  refine WC.block ?_
  refine WC.seq ?_
  refine WC.region ?_
  refine eq rfl rfl rfl ?_
  refine asg rfl rfl ?_
  refine WL.next ?_
  refine WC.ite rfl h (fun k136 h => ?_) (fun k136 h => ?_)
  · skip
    refine WC.seq ?_
    refine WC.region ?_
    refine lda 0 ya41 rfl rfl rfl rfl rfl ?_
    obtain ⟨x137, e138, h⟩ := bnd h
    refine call cl65 rfl rfl (W65 e138 hp0_5) (fun _ J139 _ hJ140 q141 => ?_)
    have hI := hI.trans hJ140
    replace hp0_5 := hp0_5.up hJ140; replace h77 := h77.up hJ140
    obtain ⟨a142, c143, rfl, h144, rfl⟩ := q141
    refine WL.front 2 ?_
    refine sta (C' := #[(.int .i64 x137.Kind), (.int .i64 x137.Path), (.int .i64 x137.Number), (.int .i64 x137.Of), (.int .i64 x137.From), (.slice a142 x137.Data.length c143), (.bool x137.Fin), (.int .i64 x137.Seen), (.int .i64 x137.Limit)]) sz41 rfl rfl rfl rfl rfl rfl ?_
    refine WL.del 1 ?_
    refine WL.del 1 ?_
    refine WL.next ?_
    refine WC.ret ?_
    refine WX.block_ret ?_
    refine WX.then_ret ?_
    cases h
    exact retC1x Try.results34 (fun a w ha hw => RC.cellA ha hw 0 rfl ya41 rfl rfl) (fun w hw => hw |>.del 0) hI ⟨_, _, rfl, h144, rfl⟩
  refine WC.seq ?_
  refine WC.region ?_
  refine eq rfl rfl rfl ?_
  refine asg rfl rfl ?_
  refine WL.next ?_
  refine WC.ite rfl h (fun k145 h => ?_) (fun k145 h => ?_)
  · skip
    refine WC.region ?_
    refine fa fl41_0 rfl rfl ?_
    refine ld 0 na3 rfl rfl rfl rfl ?_
    refine fa fl41_0 rfl rfl ?_
    refine WL.front 1 ?_
    refine st (C' := #[(.int .i64 p0.Kind), (.int .i64 x10), (.int .i64 x15), (.int .i64 x72), (.int .i64 x73), (.slice a75 x74.length c76), (.bool x78), (.int .i64 x79), (.int .i64 x80)]) sz3 rfl rfl rfl rfl rfl ?_
    refine WL.del 1 ?_
    refine WL.nil ?_
    refine WX.block_normal ?_
    refine WX.then_ ?_
    refine WC.seq ?_
    refine WC.region ?_
    refine lda 0 ya41 rfl rfl rfl rfl rfl ?_
    refine WL.front 1 ?_
    refine sta (C' := #[(.int .i64 p0.Kind), (.int .i64 x10), (.int .i64 x15), (.int .i64 x72), (.int .i64 x73), (.slice a75 x74.length c76), (.bool x78), (.int .i64 x79), (.int .i64 x80)]) sz41 rfl rfl rfl rfl rfl rfl ?_
    refine WL.del 1 ?_
    refine WL.next ?_
    refine WC.ret ?_
    cases h
    exact retC1x Try.results34 (fun a w ha hw => RC.cellA ha hw 0 rfl ya41 rfl rfl) (fun w hw => hw |>.del 0) hI ⟨_, _, rfl, h77, rfl⟩
  refine WC.seq ?_
  refine WC.region ?_
  refine eq rfl rfl rfl ?_
  refine asg rfl rfl ?_
  refine WL.next ?_
  refine WC.ite rfl h (fun k146 h => ?_) (fun k146 h => ?_)
  · skip
    refine WC.region ?_
    refine fa fl41_1 rfl rfl ?_
    refine ld 0 na3 rfl rfl rfl rfl ?_
    refine fa fl41_1 rfl rfl ?_
    refine WL.front 1 ?_
    refine st (C' := #[(.int .i64 (w64 (1 + x5))), (.int .i64 p0.Path), (.int .i64 x15), (.int .i64 x72), (.int .i64 x73), (.slice a75 x74.length c76), (.bool x78), (.int .i64 x79), (.int .i64 x80)]) sz3 rfl rfl rfl rfl rfl ?_
    refine WL.del 1 ?_
    refine WL.nil ?_
    refine WX.block_normal ?_
    refine WX.then_ ?_
    refine WC.seq ?_
    refine WC.region ?_
    refine lda 0 ya41 rfl rfl rfl rfl rfl ?_
    refine WL.front 1 ?_
    refine sta (C' := #[(.int .i64 (w64 (1 + x5))), (.int .i64 p0.Path), (.int .i64 x15), (.int .i64 x72), (.int .i64 x73), (.slice a75 x74.length c76), (.bool x78), (.int .i64 x79), (.int .i64 x80)]) sz41 rfl rfl rfl rfl rfl rfl ?_
    refine WL.del 1 ?_
    refine WL.next ?_
    refine WC.ret ?_
    cases h
    exact retC1x Try.results34 (fun a w ha hw => RC.cellA ha hw 0 rfl ya41 rfl rfl) (fun w hw => hw |>.del 0) hI ⟨_, _, rfl, h77, rfl⟩
  refine WC.seq ?_
  refine WC.region ?_
  refine eq rfl rfl rfl ?_
  refine asg rfl rfl ?_
  refine WL.next ?_
  refine WC.ite rfl h (fun k147 h => ?_) (fun k147 h => ?_)
  · skip
    refine WC.region ?_
    refine fa fl41_2 rfl rfl ?_
    refine ld 0 na3 rfl rfl rfl rfl ?_
    refine fa fl41_2 rfl rfl ?_
    refine WL.front 1 ?_
    refine st (C' := #[(.int .i64 (w64 (1 + x5))), (.int .i64 x10), (.int .i64 p0.Number), (.int .i64 x72), (.int .i64 x73), (.slice a75 x74.length c76), (.bool x78), (.int .i64 x79), (.int .i64 x80)]) sz3 rfl rfl rfl rfl rfl ?_
    refine WL.del 1 ?_
    refine WL.nil ?_
    refine WX.block_normal ?_
    refine WX.then_ ?_
    refine WC.seq ?_
    refine WC.region ?_
    refine lda 0 ya41 rfl rfl rfl rfl rfl ?_
    refine WL.front 1 ?_
    refine sta (C' := #[(.int .i64 (w64 (1 + x5))), (.int .i64 x10), (.int .i64 p0.Number), (.int .i64 x72), (.int .i64 x73), (.slice a75 x74.length c76), (.bool x78), (.int .i64 x79), (.int .i64 x80)]) sz41 rfl rfl rfl rfl rfl rfl ?_
    refine WL.del 1 ?_
    refine WL.next ?_
    refine WC.ret ?_
    cases h
    exact retC1x Try.results34 (fun a w ha hw => RC.cellA ha hw 0 rfl ya41 rfl rfl) (fun w hw => hw |>.del 0) hI ⟨_, _, rfl, h77, rfl⟩
  refine WC.seq ?_
  refine WC.region ?_
  refine eq rfl rfl rfl ?_
  refine asg rfl rfl ?_
  refine WL.next ?_
  refine WC.ite rfl h (fun k148 h => ?_) (fun k148 h => ?_)
  · skip
    refine WC.region ?_
    refine fa fl41_3 rfl rfl ?_
    refine ld 0 na3 rfl rfl rfl rfl ?_
    refine fa fl41_3 rfl rfl ?_
    refine WL.front 1 ?_
    refine st (C' := #[(.int .i64 (w64 (1 + x5))), (.int .i64 x10), (.int .i64 x15), (.int .i64 p0.Of), (.int .i64 x73), (.slice a75 x74.length c76), (.bool x78), (.int .i64 x79), (.int .i64 x80)]) sz3 rfl rfl rfl rfl rfl ?_
    refine WL.del 1 ?_
    refine WL.nil ?_
    refine WX.block_normal ?_
    refine WX.then_ ?_
    refine WC.seq ?_
    refine WC.region ?_
    refine lda 0 ya41 rfl rfl rfl rfl rfl ?_
    refine WL.front 1 ?_
    refine sta (C' := #[(.int .i64 (w64 (1 + x5))), (.int .i64 x10), (.int .i64 x15), (.int .i64 p0.Of), (.int .i64 x73), (.slice a75 x74.length c76), (.bool x78), (.int .i64 x79), (.int .i64 x80)]) sz41 rfl rfl rfl rfl rfl rfl ?_
    refine WL.del 1 ?_
    refine WL.next ?_
    refine WC.ret ?_
    cases h
    exact retC1x Try.results34 (fun a w ha hw => RC.cellA ha hw 0 rfl ya41 rfl rfl) (fun w hw => hw |>.del 0) hI ⟨_, _, rfl, h77, rfl⟩
  refine WC.seq ?_
  refine WC.region ?_
  refine eq rfl rfl rfl ?_
  refine asg rfl rfl ?_
  refine WL.next ?_
  refine WC.ite rfl h (fun k149 h => ?_) (fun k149 h => ?_)
  · skip
    refine WC.region ?_
    refine fa fl41_4 rfl rfl ?_
    refine ld 0 na3 rfl rfl rfl rfl ?_
    refine fa fl41_4 rfl rfl ?_
    refine WL.front 1 ?_
    refine st (C' := #[(.int .i64 (w64 (1 + x5))), (.int .i64 x10), (.int .i64 x15), (.int .i64 x72), (.int .i64 p0.From), (.slice a75 x74.length c76), (.bool x78), (.int .i64 x79), (.int .i64 x80)]) sz3 rfl rfl rfl rfl rfl ?_
    refine WL.del 1 ?_
    refine WL.nil ?_
    refine WX.block_normal ?_
    refine WX.then_ ?_
    refine WC.seq ?_
    refine WC.region ?_
    refine lda 0 ya41 rfl rfl rfl rfl rfl ?_
    refine WL.front 1 ?_
    refine sta (C' := #[(.int .i64 (w64 (1 + x5))), (.int .i64 x10), (.int .i64 x15), (.int .i64 x72), (.int .i64 p0.From), (.slice a75 x74.length c76), (.bool x78), (.int .i64 x79), (.int .i64 x80)]) sz41 rfl rfl rfl rfl rfl rfl ?_
    refine WL.del 1 ?_
    refine WL.next ?_
    refine WC.ret ?_
    cases h
    exact retC1x Try.results34 (fun a w ha hw => RC.cellA ha hw 0 rfl ya41 rfl rfl) (fun w hw => hw |>.del 0) hI ⟨_, _, rfl, h77, rfl⟩
  refine WC.seq ?_
  refine WC.region ?_
  refine eq rfl rfl rfl ?_
  refine asg rfl rfl ?_
  refine WL.next ?_
  refine WC.ite rfl h (fun k150 h => ?_) (fun k150 h => ?_)
  · skip
    refine WC.region ?_
    refine fa fl41_5 rfl rfl ?_
    refine ld 0 na22 rfl rfl rfl rfl ?_
    obtain ⟨x151, e152, h⟩ := bnd h
    refine call cl15 rfl rfl (W15 e152 hp0_5) (fun _ J153 _ hJ154 q155 => ?_)
    have hI := hI.trans hJ154
    replace hp0_5 := hp0_5.up hJ154; replace h77 := h77.up hJ154
    obtain ⟨a156, c157, rfl, rfl⟩ := q155
    refine fa fl41_5 rfl rfl ?_
    refine WL.front 2 ?_
    refine st (C' := #[(.int .i64 (w64 (1 + x5))), (.int .i64 x10), (.int .i64 x15), (.int .i64 x72), (.int .i64 x73), (.slice a156 x151.length c157), (.bool x78), (.int .i64 x79), (.int .i64 x80)]) sz22 rfl rfl rfl rfl rfl ?_
    refine WL.del 2 ?_
    refine WL.nil ?_
    refine WX.block_normal ?_
    refine WX.then_ ?_
    refine WC.seq ?_
    refine WC.region ?_
    refine lda 0 ya41 rfl rfl rfl rfl rfl ?_
    refine WL.front 2 ?_
    refine sta (C' := #[(.int .i64 (w64 (1 + x5))), (.int .i64 x10), (.int .i64 x15), (.int .i64 x72), (.int .i64 x73), (.slice a156 x151.length c157), (.bool x78), (.int .i64 x79), (.int .i64 x80)]) sz41 rfl rfl rfl rfl rfl rfl ?_
    refine WL.del 1 ?_
    refine WL.next ?_
    refine WC.ret ?_
    refine WX.front 1 ?_
    refine WX.freeze (fun J159 hJ160 h161 => ?_)
    have hI := hI.trans hJ160
    cases h
    exact retC1x Try.results34 (fun a w ha hw => RC.cellA ha hw 0 rfl ya41 rfl rfl) (fun w hw => hw |>.del 0) hI ⟨_, _, rfl, h161, rfl⟩
  refine WC.seq ?_
  refine WC.region ?_
  refine eq rfl rfl rfl ?_
  refine asg rfl rfl ?_
  refine WL.next ?_
  refine WC.ite rfl h (fun k162 h => ?_) (fun k162 h => ?_)
  · skip
    refine WC.region ?_
    refine fa fl41_6 rfl rfl ?_
    refine WL.front 1 ?_
    refine st (C' := #[(.int .i64 (w64 (1 + x5))), (.int .i64 x10), (.int .i64 x15), (.int .i64 x72), (.int .i64 x73), (.slice a75 x74.length c76), (.bool true), (.int .i64 x79), (.int .i64 x80)]) sz4 rfl rfl rfl rfl rfl ?_
    refine WL.del 1 ?_
    refine WL.nil ?_
    refine WX.block_normal ?_
    refine WX.then_ ?_
    refine WC.seq ?_
    refine WC.region ?_
    refine lda 0 ya41 rfl rfl rfl rfl rfl ?_
    refine WL.front 1 ?_
    refine sta (C' := #[(.int .i64 (w64 (1 + x5))), (.int .i64 x10), (.int .i64 x15), (.int .i64 x72), (.int .i64 x73), (.slice a75 x74.length c76), (.bool true), (.int .i64 x79), (.int .i64 x80)]) sz41 rfl rfl rfl rfl rfl rfl ?_
    refine WL.del 1 ?_
    refine WL.next ?_
    refine WC.ret ?_
    cases h
    exact retC1x Try.results34 (fun a w ha hw => RC.cellA ha hw 0 rfl ya41 rfl rfl) (fun w hw => hw |>.del 0) hI ⟨_, _, rfl, h77, rfl⟩
  refine WC.seq ?_
  refine WC.region ?_
  refine eq rfl rfl rfl ?_
  refine asg rfl rfl ?_
  refine WL.next ?_
  refine WC.ite rfl h (fun k163 h => ?_) (fun k163 h => ?_)
  · skip
    refine WC.region ?_
    refine fa fl41_7 rfl rfl ?_
    refine ld 0 na3 rfl rfl rfl rfl ?_
    refine fa fl41_7 rfl rfl ?_
    refine WL.front 1 ?_
    refine st (C' := #[(.int .i64 (w64 (1 + x5))), (.int .i64 x10), (.int .i64 x15), (.int .i64 x72), (.int .i64 x73), (.slice a75 x74.length c76), (.bool x78), (.int .i64 p0.Seen), (.int .i64 x80)]) sz3 rfl rfl rfl rfl rfl ?_
    refine WL.del 1 ?_
    refine WL.nil ?_
    refine WX.block_normal ?_
    refine WX.then_ ?_
    refine WC.seq ?_
    refine WC.region ?_
    refine lda 0 ya41 rfl rfl rfl rfl rfl ?_
    refine WL.front 1 ?_
    refine sta (C' := #[(.int .i64 (w64 (1 + x5))), (.int .i64 x10), (.int .i64 x15), (.int .i64 x72), (.int .i64 x73), (.slice a75 x74.length c76), (.bool x78), (.int .i64 p0.Seen), (.int .i64 x80)]) sz41 rfl rfl rfl rfl rfl rfl ?_
    refine WL.del 1 ?_
    refine WL.next ?_
    refine WC.ret ?_
    cases h
    exact retC1x Try.results34 (fun a w ha hw => RC.cellA ha hw 0 rfl ya41 rfl rfl) (fun w hw => hw |>.del 0) hI ⟨_, _, rfl, h77, rfl⟩
  refine WC.seq ?_
  refine WC.region ?_
  refine eq rfl rfl rfl ?_
  refine asg rfl rfl ?_
  refine WL.next ?_
  refine WC.ite rfl h (fun k164 h => ?_) (fun k164 h => ?_)
  · skip
    refine WC.region ?_
    refine fa fl41_8 rfl rfl ?_
    refine ld 0 na3 rfl rfl rfl rfl ?_
    refine fa fl41_8 rfl rfl ?_
    refine WL.front 1 ?_
    refine st (C' := #[(.int .i64 (w64 (1 + x5))), (.int .i64 x10), (.int .i64 x15), (.int .i64 x72), (.int .i64 x73), (.slice a75 x74.length c76), (.bool x78), (.int .i64 x79), (.int .i64 p0.Limit)]) sz3 rfl rfl rfl rfl rfl ?_
    refine WL.del 1 ?_
    refine WL.nil ?_
    refine WX.block_normal ?_
    refine WX.then_ ?_
    refine WC.seq ?_
    refine WC.region ?_
    refine lda 0 ya41 rfl rfl rfl rfl rfl ?_
    refine WL.front 1 ?_
    refine sta (C' := #[(.int .i64 (w64 (1 + x5))), (.int .i64 x10), (.int .i64 x15), (.int .i64 x72), (.int .i64 x73), (.slice a75 x74.length c76), (.bool x78), (.int .i64 x79), (.int .i64 p0.Limit)]) sz41 rfl rfl rfl rfl rfl rfl ?_
    refine WL.del 1 ?_
    refine WL.next ?_
    refine WC.ret ?_
    cases h
    exact retC1x Try.results34 (fun a w ha hw => RC.cellA ha hw 0 rfl ya41 rfl rfl) (fun w hw => hw |>.del 0) hI ⟨_, _, rfl, h77, rfl⟩
  refine WC.seq ?_
  refine WC.region ?_
  refine eq rfl rfl rfl ?_
  refine asg rfl rfl ?_
  refine WL.next ?_
  refine WC.ite rfl h (fun k165 h => ?_) (fun k165 h => ?_)
  · skip
    refine WC.sub (r := [(2, (.pointer (some ⟨g1, 0, none⟩))), (4, (.pointer (some ⟨g3, 0, none⟩))), (5, (.func (.func 19) #[] #[])), (6, (.pointer (some ⟨q24, 0, none⟩)))]) ?_ ⟨rfl, rfl, rfl, rfl, trivial⟩
    obtain ⟨x166, e167, h⟩ := bnd h
    obtain ⟨x171, e172, h⟩ := bnd h
    refine WC.front 1 ?_
    refine WC.front 1 ?_
    refine WC.drawn mo (nthL [[], [], [1], [0, 1, 2], [], [], [5], [0, 1, 2, 3, 4, 5, 6], [0, 1, 2, 3], [0, 1, 2, 3, 4, 5, 6, 7, 8], [0, 1, 2, 3, 4, 5, 6, 7, 8, 9], [0, 1, 2, 3, 4, 5, 6, 7, 8, 9, 10]]) (nthL [[], [], [1], [0, 2], [], [], [5], [4, 6], [], [3, 8], [], [7, 10]]) (nthK [.val (.func (.func 19) #[] #[]), .val (.pointer (some ⟨g1, 4, none⟩)), .val (.int .i64 p0.From), .val (.int .i64 x166), .val (.func (.func 19) #[] #[]), .val (.pointer (some ⟨g1, 2, none⟩)), .val (.int .i64 p0.Number), .val (.int .i64 x171), .val (.pointer (some ⟨q24, 4, none⟩)), .any, .val (.pointer (some ⟨q24, 2, none⟩)), .any]) [⟨none, none, [2, 6], [], fun _ => bl g1 #[(.int .i64 p0.Kind), (.int .i64 p0.Path), (.int .i64 p0.Number), (.int .i64 p0.Of), (.int .i64 p0.From), (.slice a0_5 p0.Data.length c0_5), (.bool p0.Fin), (.int .i64 p0.Seen), (.int .i64 p0.Limit)] 41⟩, ⟨none, (some 9), [], [], fun _ => bl q24 #[(.int .i64 (w64 (1 + x5))), (.int .i64 x10), (.int .i64 x15), (.int .i64 x72), (.int .i64 x73), (.slice a75 x74.length c76), (.bool x78), (.int .i64 x79), (.int .i64 x80)] 41⟩, ⟨(some 9), (some 11), [], [], fun _ => bl q24 #[(.int .i64 (w64 (1 + x5))), (.int .i64 x10), (.int .i64 x15), (.int .i64 x72), (.int .i64 x166), (.slice a75 x74.length c76), (.bool x78), (.int .i64 x79), (.int .i64 x80)] 41⟩, ⟨(some 11), none, [], [], fun _ => bl q24 #[(.int .i64 (w64 (1 + x5))), (.int .i64 x10), (.int .i64 x171), (.int .i64 x72), (.int .i64 x166), (.slice a75 x74.length c76), (.bool x78), (.int .i64 x79), (.int .i64 x80)] 41⟩] (by kernel_rfl) (by kernel_rfl) (by kernel_rfl) (H := bl g3 #[(.int .i64 0), (.int .i64 0), (.int .i64 0), (.int .i64 0), (.int .i64 0), (.slice none 0 0), (.bool false), (.int .i64 0), (.int .i64 0)] 41 :: G) rfl ⟨?_, ?_, ?_, ?_, ?_, ?_, ?_, ?_, ?_, ?_, ?_, ?_, trivial⟩ ?_
    · intro Q ρ I1 H hI1 hk hpost
      have hc := Mem.le.refl I1
      refine mv rfl rfl ?_
      refine WL.nil ?_
      exact hpost _ _ hc rfl _ (fun _ hd => by obtain rfl := Option.some.inj hd; exact ⟨rfl, trivial⟩)
    · intro Q ρ I1 H hI1 hk hpost
      have hc := Mem.le.refl I1
      refine fa fl41_4 rfl rfl ?_
      refine WL.nil ?_
      exact hpost _ _ hc rfl _ (fun _ hd => by obtain rfl := Option.some.inj hd; exact ⟨rfl, trivial⟩)
    · intro Q ρ I1 H hI1 hk hpost
      obtain ⟨_, -⟩ := hk
      have hc := Mem.le.refl I1
      refine ld 0 na3 rfl rfl rfl rfl ?_
      refine WL.nil ?_
      exact hpost _ _ hc rfl _ (fun _ hd => by obtain rfl := Option.some.inj hd; exact ⟨rfl, trivial⟩)
    · intro Q ρ I1 H hI1 hk hpost
      obtain ⟨_, _, -⟩ := hk
      have hc := Mem.le.refl I1
      refine callv cl19 rfl rfl rfl (W19 e167) (fun _ J168 _ hJ169 q170 => ?_)
      have hc := hc.trans hJ169
      obtain ⟨rfl, rfl⟩ := q170
      refine WL.nil ?_
      exact hpost _ _ hc rfl _ (fun _ hd => by obtain rfl := Option.some.inj hd; exact ⟨rfl, trivial⟩)
    · intro Q ρ I1 H hI1 hk hpost
      have hc := Mem.le.refl I1
      refine mv rfl rfl ?_
      refine WL.nil ?_
      exact hpost _ _ hc rfl _ (fun _ hd => by obtain rfl := Option.some.inj hd; exact ⟨rfl, trivial⟩)
    · intro Q ρ I1 H hI1 hk hpost
      have hc := Mem.le.refl I1
      refine fa fl41_2 rfl rfl ?_
      refine WL.nil ?_
      exact hpost _ _ hc rfl _ (fun _ hd => by obtain rfl := Option.some.inj hd; exact ⟨rfl, trivial⟩)
    · intro Q ρ I1 H hI1 hk hpost
      obtain ⟨_, -⟩ := hk
      have hc := Mem.le.refl I1
      refine ld 0 na3 rfl rfl rfl rfl ?_
      refine WL.nil ?_
      exact hpost _ _ hc rfl _ (fun _ hd => by obtain rfl := Option.some.inj hd; exact ⟨rfl, trivial⟩)
    · intro Q ρ I1 H hI1 hk hpost
      obtain ⟨_, _, -⟩ := hk
      have hc := Mem.le.refl I1
      refine callv cl19 rfl rfl rfl (W19 e172) (fun _ J173 _ hJ174 q175 => ?_)
      have hc := hc.trans hJ174
      obtain ⟨rfl, rfl⟩ := q175
      refine WL.nil ?_
      exact hpost _ _ hc rfl _ (fun _ hd => by obtain rfl := Option.some.inj hd; exact ⟨rfl, trivial⟩)
    · intro Q ρ I1 H hI1 hk hpost
      have hc := Mem.le.refl I1
      refine fa fl41_4 rfl rfl ?_
      refine WL.nil ?_
      exact hpost _ _ hc rfl _ (fun _ hd => by obtain rfl := Option.some.inj hd; exact ⟨rfl, trivial⟩)
    · intro Q ρ I1 H hI1 hk hpost
      obtain ⟨_, _, -⟩ := hk
      have hc := Mem.le.refl I1
      refine st (C' := #[(.int .i64 (w64 (1 + x5))), (.int .i64 x10), (.int .i64 x15), (.int .i64 x72), (.int .i64 x166), (.slice a75 x74.length c76), (.bool x78), (.int .i64 x79), (.int .i64 x80)]) sz3 rfl rfl rfl rfl rfl ?_
      refine WL.nil ?_
      exact hpost undef _ hc trivial _ (fun _ hd => by cases hd)
    · intro Q ρ I1 H hI1 hk hpost
      have hc := Mem.le.refl I1
      refine fa fl41_2 rfl rfl ?_
      refine WL.nil ?_
      exact hpost _ _ hc rfl _ (fun _ hd => by obtain rfl := Option.some.inj hd; exact ⟨rfl, trivial⟩)
    · intro Q ρ I1 H hI1 hk hpost
      obtain ⟨_, _, -⟩ := hk
      have hc := Mem.le.refl I1
      refine st (C' := #[(.int .i64 (w64 (1 + x5))), (.int .i64 x10), (.int .i64 x171), (.int .i64 x72), (.int .i64 x166), (.slice a75 x74.length c76), (.bool x78), (.int .i64 x79), (.int .i64 x80)]) sz3 rfl rfl rfl rfl rfl ?_
      refine WL.nil ?_
      exact hpost undef _ hc trivial _ (fun _ hd => by cases hd)
    rintro ρ J176 hJ177 -
    refine WX.sub (r := [(4, (.pointer (some ⟨g3, 0, none⟩))), (6, (.pointer (some ⟨q24, 0, none⟩)))]) ?_ ⟨rfl, rfl, trivial⟩
    refine WX.is (H := bl g1 #[(.int .i64 p0.Kind), (.int .i64 p0.Path), (.int .i64 p0.Number), (.int .i64 p0.Of), (.int .i64 p0.From), (.slice a0_5 p0.Data.length c0_5), (.bool p0.Fin), (.int .i64 p0.Seen), (.int .i64 p0.Limit)] 41 :: bl q24 #[(.int .i64 (w64 (1 + x5))), (.int .i64 x10), (.int .i64 x171), (.int .i64 x72), (.int .i64 x166), (.slice a75 x74.length c76), (.bool x78), (.int .i64 x79), (.int .i64 x80)] 41 :: bl g3 #[(.int .i64 0), (.int .i64 0), (.int .i64 0), (.int .i64 0), (.int .i64 0), (.slice none 0 0), (.bool false), (.int .i64 0), (.int .i64 0)] 41 :: G) rfl ?_
    have hI := hI.trans hJ177
    replace hp0_5 := hp0_5.up hJ177; replace h77 := h77.up hJ177
    refine WX.block_normal ?_
    refine WX.then_ ?_
    refine WC.seq ?_
    refine WC.region ?_
    refine lda 1 ya41 rfl rfl rfl rfl rfl ?_
    refine WL.front 2 ?_
    refine sta (C' := #[(.int .i64 (w64 (1 + x5))), (.int .i64 x10), (.int .i64 x171), (.int .i64 x72), (.int .i64 x166), (.slice a75 x74.length c76), (.bool x78), (.int .i64 x79), (.int .i64 x80)]) sz41 rfl rfl rfl rfl rfl rfl ?_
    refine WL.del 1 ?_
    refine WL.del 1 ?_
    refine WL.next ?_
    refine WC.ret ?_
    cases h
    exact retC1x Try.results34 (fun a w ha hw => RC.cellA ha hw 0 rfl ya41 rfl rfl) (fun w hw => hw |>.del 0) hI ⟨_, _, rfl, h77, rfl⟩
  refine WC.skip ?_
  refine WX.block_normal ?_
  refine WX.then_ ?_
  refine WC.seq ?_
  refine WC.region ?_
  refine lda 1 ya41 rfl rfl rfl rfl rfl ?_
  refine WL.front 2 ?_
  refine sta (C' := #[(.int .i64 (w64 (1 + x5))), (.int .i64 x10), (.int .i64 x15), (.int .i64 x72), (.int .i64 x73), (.slice a75 x74.length c76), (.bool x78), (.int .i64 x79), (.int .i64 x80)]) sz41 rfl rfl rfl rfl rfl rfl ?_
  refine WL.del 1 ?_
  refine WL.del 1 ?_
  refine WL.next ?_
  refine WC.ret ?_
  cases h
  exact retC1x Try.results34 (fun a w ha hw => RC.cellA ha hw 0 rfl ya41 rfl rfl) (fun w hw => hw |>.del 0) hI ⟨_, _, rfl, h77, rfl⟩
theorem W82 {I : Mem} {G : List Asn} {p0 : Int} {p1 : Int} {p2 : Int} {r : Bool} (h : haulierref01_between p0 p1 p2 = some r) :
    CallsS Try.prog 82 #[.int .i64 p0, .int .i64 p1, .int .i64 p2] I (G) (fun v J G' => v = .bool r ∧ G = G') := by
  refine CallsS.enter Try.func82 rfl Try.ntmps82 rfl (fun w0 => ?_)
  have hI := Mem.le.refl I
  unfold haulierref01_between at h
  refine WC.seq ?_
  refine WC.region ?_
  refine asg rfl rfl ?_
  refine WL.next ?_
  refine WC.seq ?_
  refine WC.region ?_
  refine mv rfl rfl ?_
  refine mv rfl rfl ?_
  refine ge rfl rfl rfl ?_
  refine mv rfl rfl ?_
  rcases spl h with ⟨k1, h⟩ | ⟨k1, h⟩
  · skip
    refine WL.rb 10 rfl (bT k1) ?_
    refine WL.on rfl rfl ?_
    refine mv rfl rfl ?_
    refine WL.on rfl rfl ?_
    refine mv rfl rfl ?_
    refine WL.on rfl rfl ?_
    refine le rfl rfl rfl ?_
    refine pkT rfl rfl rfl ?_
    refine asg rfl rfl ?_
    refine WL.next ?_
    refine WC.ret ?_
    cases h
    exact ret1 Try.results82 rfl hI ⟨rfl, rfl⟩
  refine WL.rb 10 rfl (bF k1) ?_
  refine WL.no rfl rfl rfl rfl ?_
  refine WL.no rfl rfl rfl rfl ?_
  refine WL.no rfl rfl rfl rfl ?_
  refine pkF rfl rfl rfl ?_
  refine asg rfl rfl ?_
  refine WL.next ?_
  refine WC.ret ?_
  cases h
  exact ret1 Try.results82 rfl hI ⟨rfl, rfl⟩
theorem W66 {I : Mem} {G : List Asn} {p0 : api_Packet} {r : Bool} (h : haulierref01_Right p0 = some r) {u0_5 : Value} (hp0_5 : IV I u0_5 p0.Data) :
    CallsS Try.prog 66 #[.agg #[(.int .i64 p0.Kind), (.int .i64 p0.Path), (.int .i64 p0.Number), (.int .i64 p0.Of), (.int .i64 p0.From), u0_5, (.bool p0.Fin), (.int .i64 p0.Seen), (.int .i64 p0.Limit)]] I (G) (fun v J G' => v = .bool r ∧ G = G') := by
  refine CallsS.enter Try.func66 rfl Try.ntmps66 rfl (fun w0 => ?_)
  have hI := Mem.le.refl I
  obtain ⟨a0_5, c0_5, rfl⟩ := hp0_5.hd
  unfold haulierref01_Right at h
  refine WC.seq ?_
  refine WC.region ?_
  refine bx rfl rfl rfl (fun g1 => ?_)
  refine asg rfl rfl ?_
  refine WL.next ?_
  refine WC.seq ?_
  refine WC.seq ?_
  obtain ⟨j38, hj38, h⟩ := bnd h
  refine WC.joinQ (σ := Bool) (fun x37 => [(1, (.pointer (some ⟨g1, 0, none⟩))), (21, (.bool x37))]) (fun x37 => bl g1 #[(.int .i64 p0.Kind), (.int .i64 p0.Path), (.int .i64 p0.Number), (.int .i64 p0.Of), (.int .i64 p0.From), (.slice a0_5 p0.Data.length c0_5), (.bool p0.Fin), (.int .i64 p0.Seen), (.int .i64 p0.Limit)] 41 :: G) (fun x37 J => x37 = j38) (fun kj38 => ?_) ?_
  · skip
    have lj38 := Mem.le.refl I
    refine WC.region ?_
    refine fa fl41_0 rfl rfl ?_
    refine ld 0 na3 rfl rfl rfl rfl ?_
    obtain ⟨x39, e40, hj38⟩ := bnd hj38
    refine call cl82 rfl rfl (W82 e40) (fun _ J41 _ hJ42 q43 => ?_)
    have hI := hI.trans hJ42
    have lj38 := lj38.trans hJ42
    replace hp0_5 := hp0_5.up hJ42
    obtain ⟨rfl, rfl⟩ := q43
    refine nt rfl rfl ?_
    refine mv rfl rfl ?_
    rcases spl hj38 with ⟨k44, hj38⟩ | ⟨k44, hj38⟩
    · skip
      refine WL.rb 10 rfl (bt1n k44) ?_
      refine WL.on rfl rfl ?_
      refine fa fl41_1 rfl rfl ?_
      refine WL.on rfl rfl ?_
      refine ld 0 na3 rfl rfl rfl rfl ?_
      refine WL.on rfl rfl ?_
      obtain ⟨x45, e46, hj38⟩ := bnd hj38
      refine call cl82 rfl rfl (W82 e46) (fun _ J47 _ hJ48 q49 => ?_)
      have hI := hI.trans hJ48
      have lj38 := lj38.trans hJ48
      replace hp0_5 := hp0_5.up hJ48
      obtain ⟨rfl, rfl⟩ := q49
      refine WL.on rfl rfl ?_
      refine nt rfl rfl ?_
      refine pkF rfl rfl rfl ?_
      refine mv rfl rfl ?_
      rcases spl hj38 with ⟨k50, hj38⟩ | ⟨k50, hj38⟩
      · skip
        refine WL.rb 16 rfl (bt1n k50) ?_
        refine WL.on rfl rfl ?_
        refine fa fl41_2 rfl rfl ?_
        refine WL.on rfl rfl ?_
        refine ld 0 na3 rfl rfl rfl rfl ?_
        refine WL.on rfl rfl ?_
        obtain ⟨x51, e52, hj38⟩ := bnd hj38
        refine call cl82 rfl rfl (W82 e52) (fun _ J53 _ hJ54 q55 => ?_)
        have hI := hI.trans hJ54
        have lj38 := lj38.trans hJ54
        replace hp0_5 := hp0_5.up hJ54
        obtain ⟨rfl, rfl⟩ := q55
        refine WL.on rfl rfl ?_
        refine nt rfl rfl ?_
        refine pkF rfl rfl rfl ?_
        refine WL.nil ?_
        exact (kj38 (!x51) _ lj38 (Option.some.inj hj38)).sub ⟨rfl, rfl, trivial⟩
      refine WL.rb 16 rfl (bf1n k50) ?_
      refine WL.no rfl rfl rfl rfl ?_
      refine WL.no rfl rfl rfl rfl ?_
      refine WL.no rfl rfl rfl rfl ?_
      refine WL.no rfl rfl rfl rfl ?_
      refine pkT rfl rfl rfl ?_
      refine WL.nil ?_
      exact (kj38 true _ lj38 (Option.some.inj hj38)).sub ⟨rfl, rfl, trivial⟩
    refine WL.rb 10 rfl (bf1n k44) ?_
    refine WL.no rfl rfl rfl rfl ?_
    refine WL.no rfl rfl rfl rfl ?_
    refine WL.no rfl rfl rfl rfl ?_
    refine WL.no rfl rfl rfl rfl ?_
    refine pkT rfl rfl rfl ?_
    refine mv rfl rfl ?_
    refine WL.no rfl rfl rfl rfl ?_
    refine WL.no rfl rfl rfl rfl ?_
    refine WL.no rfl rfl rfl rfl ?_
    refine WL.no rfl rfl rfl rfl ?_
    refine pkT rfl rfl rfl ?_
    refine WL.nil ?_
    exact (kj38 true _ lj38 (Option.some.inj hj38)).sub ⟨rfl, rfl, trivial⟩
  rintro x37 J56 hJ57 rfl
  have hI := hI.trans hJ57
  replace hp0_5 := hp0_5.up hJ57
  refine WX.then_ ?_
  refine WC.iteb rfl h (fun k58 h => ?_) (fun k58 h => ?_)
  · skip
    refine WC.seq ?_
    refine WC.region ?_
    refine asg rfl rfl ?_
    refine WL.del 0 ?_
    refine WL.next ?_
    refine WC.ret ?_
    refine WX.then_ret ?_
    cases h
    exact ret1 Try.results66 rfl hI ⟨rfl, rfl⟩
  refine WC.skip ?_
  refine WX.then_ ?_
  refine WC.seq ?_
  obtain ⟨j72, hj72, h⟩ := bnd h
  refine WC.joinQ (σ := Bool × Bool × Bool) (fun (x69, x70, x71) => [(1, (.pointer (some ⟨g1, 0, none⟩))), (3, (.bool x69)), (4, (.bool x70)), (5, (.bool x71))]) (fun (x69, x70, x71) => bl g1 #[(.int .i64 p0.Kind), (.int .i64 p0.Path), (.int .i64 p0.Number), (.int .i64 p0.Of), (.int .i64 p0.From), (.slice a0_5 p0.Data.length c0_5), (.bool p0.Fin), (.int .i64 p0.Seen), (.int .i64 p0.Limit)] 41 :: G) (fun (x69, x70, x71) J => (x69, x70, x71) = j72) (fun kj72 => ?_) ?_
  · skip
    have lj72 := Mem.le.refl J56
    refine WC.sub (r := [(1, (.pointer (some ⟨g1, 0, none⟩)))]) ?_ ⟨rfl, trivial⟩
    rcases spl hj72 with ⟨k73, hj72⟩ | ⟨k73, hj72⟩
    · skip
      refine WC.drawn mo (nthL [[], [0], [0, 1], [0, 1, 2], [0, 1, 2, 3], [0, 1, 2, 3, 4], [0, 1, 2, 3, 4, 5], [0, 1, 2, 3, 4, 5, 6], [], [8], [8, 9], [], [11], [11, 12], [0, 1, 2, 3, 4, 5, 6, 7], [0, 1, 2, 3, 4, 5, 6, 7, 8, 9, 10, 14], [0, 1, 2, 3, 4, 5, 6, 7, 8, 9, 10, 11, 12, 13, 14, 15]]) (nthL [[], [0], [1], [2], [3], [3], [3], [3, 6], [], [8], [9], [], [11], [12], [7], [10], [13]]) (nthK [.val (.pointer (some ⟨g1, 0, none⟩)), .val (.int .i64 p0.Kind), .val (.bool (decide (p0.Kind = 2))), .val (.bool true), .val undef, .val undef, .val undef, .val (.bool true), .val (.pointer (some ⟨g1, 0, none⟩)), .val (.int .i64 p0.Kind), .val (.bool (decide (p0.Kind = 3))), .val (.pointer (some ⟨g1, 0, none⟩)), .val (.int .i64 p0.Kind), .val (.bool (decide (p0.Kind = 4))), .val (.bool true), .val (.bool (decide (p0.Kind = 3))), .val (.bool (decide (p0.Kind = 4)))]) [⟨none, none, [1, 9, 12], [], fun _ => bl g1 #[(.int .i64 p0.Kind), (.int .i64 p0.Path), (.int .i64 p0.Number), (.int .i64 p0.Of), (.int .i64 p0.From), (.slice a0_5 p0.Data.length c0_5), (.bool p0.Fin), (.int .i64 p0.Seen), (.int .i64 p0.Limit)] 41⟩] (by kernel_rfl) (by kernel_rfl) (by kernel_rfl) (H := G) rfl ⟨?_, ?_, ?_, ?_, ?_, ?_, ?_, ?_, ?_, ?_, ?_, ?_, ?_, ?_, ?_, ?_, ?_, trivial⟩ ?_
      · intro Q ρ I1 H hI1 hk hpost
        have hc := Mem.le.refl I1
        refine fa fl41_0 rfl rfl ?_
        refine WL.nil ?_
        exact hpost _ _ hc rfl _ (fun _ hd => by obtain rfl := Option.some.inj hd; exact ⟨rfl, trivial⟩)
      · intro Q ρ I1 H hI1 hk hpost
        obtain ⟨_, -⟩ := hk
        have hc := Mem.le.refl I1
        refine ld 0 na3 rfl rfl rfl rfl ?_
        refine WL.nil ?_
        exact hpost _ _ hc rfl _ (fun _ hd => by obtain rfl := Option.some.inj hd; exact ⟨rfl, trivial⟩)
      · intro Q ρ I1 H hI1 hk hpost
        obtain ⟨_, -⟩ := hk
        have hc := Mem.le.refl I1
        refine eq rfl rfl rfl ?_
        refine WL.nil ?_
        exact hpost _ _ hc rfl _ (fun _ hd => by obtain rfl := Option.some.inj hd; exact ⟨rfl, trivial⟩)
      · intro Q ρ I1 H hI1 hk hpost
        obtain ⟨_, -⟩ := hk
        have hc := Mem.le.refl I1
        refine mv rfl rfl ?_
        refine WL.nil ?_
        exact hpost _ _ hc (bT k73) _ (fun _ hd => by obtain rfl := Option.some.inj hd; exact ⟨rfl, trivial⟩)
      · intro Q ρ I1 H hI1 hk hpost
        obtain ⟨_, -⟩ := hk
        have hc := Mem.le.refl I1
        refine WL.no rfl rfl rfl rfl ?_
        refine WL.nil ?_
        exact hpost _ _ hc rfl _ (fun _ hd => by obtain rfl := Option.some.inj hd; exact ⟨rfl, trivial⟩)
      · intro Q ρ I1 H hI1 hk hpost
        obtain ⟨_, -⟩ := hk
        have hc := Mem.le.refl I1
        refine WL.no rfl rfl rfl rfl ?_
        refine WL.nil ?_
        exact hpost _ _ hc rfl _ (fun _ hd => by obtain rfl := Option.some.inj hd; exact ⟨rfl, trivial⟩)
      · intro Q ρ I1 H hI1 hk hpost
        obtain ⟨_, -⟩ := hk
        have hc := Mem.le.refl I1
        refine WL.no rfl rfl rfl rfl ?_
        refine WL.nil ?_
        exact hpost _ _ hc rfl _ (fun _ hd => by obtain rfl := Option.some.inj hd; exact ⟨rfl, trivial⟩)
      · intro Q ρ I1 H hI1 hk hpost
        obtain ⟨_, _, -⟩ := hk
        have hc := Mem.le.refl I1
        refine pkT rfl rfl rfl ?_
        refine WL.nil ?_
        exact hpost _ _ hc rfl _ (fun _ hd => by obtain rfl := Option.some.inj hd; exact ⟨rfl, trivial⟩)
      · intro Q ρ I1 H hI1 hk hpost
        have hc := Mem.le.refl I1
        refine fa fl41_0 rfl rfl ?_
        refine WL.nil ?_
        exact hpost _ _ hc rfl _ (fun _ hd => by obtain rfl := Option.some.inj hd; exact ⟨rfl, trivial⟩)
      · intro Q ρ I1 H hI1 hk hpost
        obtain ⟨_, -⟩ := hk
        have hc := Mem.le.refl I1
        refine ld 0 na3 rfl rfl rfl rfl ?_
        refine WL.nil ?_
        exact hpost _ _ hc rfl _ (fun _ hd => by obtain rfl := Option.some.inj hd; exact ⟨rfl, trivial⟩)
      · intro Q ρ I1 H hI1 hk hpost
        obtain ⟨_, -⟩ := hk
        have hc := Mem.le.refl I1
        refine eq rfl rfl rfl ?_
        refine WL.nil ?_
        exact hpost _ _ hc rfl _ (fun _ hd => by obtain rfl := Option.some.inj hd; exact ⟨rfl, trivial⟩)
      · intro Q ρ I1 H hI1 hk hpost
        have hc := Mem.le.refl I1
        refine fa fl41_0 rfl rfl ?_
        refine WL.nil ?_
        exact hpost _ _ hc rfl _ (fun _ hd => by obtain rfl := Option.some.inj hd; exact ⟨rfl, trivial⟩)
      · intro Q ρ I1 H hI1 hk hpost
        obtain ⟨_, -⟩ := hk
        have hc := Mem.le.refl I1
        refine ld 0 na3 rfl rfl rfl rfl ?_
        refine WL.nil ?_
        exact hpost _ _ hc rfl _ (fun _ hd => by obtain rfl := Option.some.inj hd; exact ⟨rfl, trivial⟩)
      · intro Q ρ I1 H hI1 hk hpost
        obtain ⟨_, -⟩ := hk
        have hc := Mem.le.refl I1
        refine eq rfl rfl rfl ?_
        refine WL.nil ?_
        exact hpost _ _ hc rfl _ (fun _ hd => by obtain rfl := Option.some.inj hd; exact ⟨rfl, trivial⟩)
      · intro Q ρ I1 H hI1 hk hpost
        obtain ⟨_, -⟩ := hk
        have hc := Mem.le.refl I1
        refine asg rfl rfl ?_
        refine WL.nil ?_
        exact hpost _ _ hc rfl _ (fun _ hd => by obtain rfl := Option.some.inj hd; exact ⟨rfl, trivial⟩)
      · intro Q ρ I1 H hI1 hk hpost
        obtain ⟨_, -⟩ := hk
        have hc := Mem.le.refl I1
        refine asg rfl rfl ?_
        refine WL.nil ?_
        exact hpost _ _ hc rfl _ (fun _ hd => by obtain rfl := Option.some.inj hd; exact ⟨rfl, trivial⟩)
      · intro Q ρ I1 H hI1 hk hpost
        obtain ⟨_, -⟩ := hk
        have hc := Mem.le.refl I1
        refine asg rfl rfl ?_
        refine WL.nil ?_
        exact hpost _ _ hc rfl _ (fun _ hd => by obtain rfl := Option.some.inj hd; exact ⟨rfl, trivial⟩)
      rintro ρ J74 hJ75 -
      refine WX.sub (r := [(1, (.pointer (some ⟨g1, 0, none⟩))), (3, (.bool true)), (4, (.bool (decide (p0.Kind = 3)))), (5, (.bool (decide (p0.Kind = 4))))]) ?_ ⟨rfl, rfl, rfl, rfl, trivial⟩
      refine WX.is (H := bl g1 #[(.int .i64 p0.Kind), (.int .i64 p0.Path), (.int .i64 p0.Number), (.int .i64 p0.Of), (.int .i64 p0.From), (.slice a0_5 p0.Data.length c0_5), (.bool p0.Fin), (.int .i64 p0.Seen), (.int .i64 p0.Limit)] 41 :: G) rfl ?_
      have hI := hI.trans hJ75
      have lj72 := lj72.trans hJ75
      replace hp0_5 := hp0_5.up hJ75
      exact (kj72 ⟨true, (decide (p0.Kind = 3)), (decide (p0.Kind = 4))⟩ _ lj72 (Option.some.inj hj72)).sub ⟨rfl, rfl, rfl, rfl, trivial⟩
    refine WC.drawn mo (nthL [[], [0], [0, 1], [0, 1, 2], [0, 1, 2, 3], [0, 1, 2, 3, 4], [0, 1, 2, 3, 4, 5], [0, 1, 2, 3, 4, 5, 6], [], [8], [8, 9], [], [11], [11, 12], [0, 1, 2, 3, 4, 5, 6, 7], [0, 1, 2, 3, 4, 5, 6, 7, 8, 9, 10, 14], [0, 1, 2, 3, 4, 5, 6, 7, 8, 9, 10, 11, 12, 13, 14, 15]]) (nthL [[], [0], [1], [2], [3], [3, 4], [3, 5], [3, 6], [], [8], [9], [], [11], [12], [7], [10], [13]]) (nthK [.val (.pointer (some ⟨g1, 0, none⟩)), .val (.int .i64 p0.Kind), .val (.bool (decide (p0.Kind = 2))), .val (.bool false), .val (.pointer (some ⟨g1, 0, none⟩)), .val (.int .i64 p0.Kind), .val (.bool (decide (p0.Kind = 4))), .val (.bool (decide (p0.Kind = 4))), .val (.pointer (some ⟨g1, 0, none⟩)), .val (.int .i64 p0.Kind), .val (.bool (decide (p0.Kind = 3))), .val (.pointer (some ⟨g1, 0, none⟩)), .val (.int .i64 p0.Kind), .val (.bool (decide (p0.Kind = 4))), .val (.bool (decide (p0.Kind = 4))), .val (.bool (decide (p0.Kind = 3))), .val (.bool (decide (p0.Kind = 4)))]) [⟨none, none, [1, 5, 9, 12], [], fun _ => bl g1 #[(.int .i64 p0.Kind), (.int .i64 p0.Path), (.int .i64 p0.Number), (.int .i64 p0.Of), (.int .i64 p0.From), (.slice a0_5 p0.Data.length c0_5), (.bool p0.Fin), (.int .i64 p0.Seen), (.int .i64 p0.Limit)] 41⟩] (by kernel_rfl) (by kernel_rfl) (by kernel_rfl) (H := G) rfl ⟨?_, ?_, ?_, ?_, ?_, ?_, ?_, ?_, ?_, ?_, ?_, ?_, ?_, ?_, ?_, ?_, ?_, trivial⟩ ?_
    · intro Q ρ I1 H hI1 hk hpost
      have hc := Mem.le.refl I1
      refine fa fl41_0 rfl rfl ?_
      refine WL.nil ?_
      exact hpost _ _ hc rfl _ (fun _ hd => by obtain rfl := Option.some.inj hd; exact ⟨rfl, trivial⟩)
    · intro Q ρ I1 H hI1 hk hpost
      obtain ⟨_, -⟩ := hk
      have hc := Mem.le.refl I1
      refine ld 0 na3 rfl rfl rfl rfl ?_
      refine WL.nil ?_
      exact hpost _ _ hc rfl _ (fun _ hd => by obtain rfl := Option.some.inj hd; exact ⟨rfl, trivial⟩)
    · intro Q ρ I1 H hI1 hk hpost
      obtain ⟨_, -⟩ := hk
      have hc := Mem.le.refl I1
      refine eq rfl rfl rfl ?_
      refine WL.nil ?_
      exact hpost _ _ hc rfl _ (fun _ hd => by obtain rfl := Option.some.inj hd; exact ⟨rfl, trivial⟩)
    · intro Q ρ I1 H hI1 hk hpost
      obtain ⟨_, -⟩ := hk
      have hc := Mem.le.refl I1
      refine mv rfl rfl ?_
      refine WL.nil ?_
      exact hpost _ _ hc (bF k73) _ (fun _ hd => by obtain rfl := Option.some.inj hd; exact ⟨rfl, trivial⟩)
    · intro Q ρ I1 H hI1 hk hpost
      obtain ⟨_, -⟩ := hk
      have hc := Mem.le.refl I1
      refine WL.on rfl rfl ?_
      refine fa fl41_0 rfl rfl ?_
      refine WL.nil ?_
      exact hpost _ _ hc rfl _ (fun _ hd => by obtain rfl := Option.some.inj hd; exact ⟨rfl, trivial⟩)
    · intro Q ρ I1 H hI1 hk hpost
      obtain ⟨_, _, -⟩ := hk
      have hc := Mem.le.refl I1
      refine WL.on rfl rfl ?_
      refine ld 0 na3 rfl rfl rfl rfl ?_
      refine WL.nil ?_
      exact hpost _ _ hc rfl _ (fun _ hd => by obtain rfl := Option.some.inj hd; exact ⟨rfl, trivial⟩)
    · intro Q ρ I1 H hI1 hk hpost
      obtain ⟨_, _, -⟩ := hk
      have hc := Mem.le.refl I1
      refine WL.on rfl rfl ?_
      refine eq rfl rfl rfl ?_
      refine WL.nil ?_
      exact hpost _ _ hc rfl _ (fun _ hd => by obtain rfl := Option.some.inj hd; exact ⟨rfl, trivial⟩)
    · intro Q ρ I1 H hI1 hk hpost
      obtain ⟨_, _, -⟩ := hk
      have hc := Mem.le.refl I1
      refine pkF rfl rfl rfl ?_
      refine WL.nil ?_
      exact hpost _ _ hc rfl _ (fun _ hd => by obtain rfl := Option.some.inj hd; exact ⟨rfl, trivial⟩)
    · intro Q ρ I1 H hI1 hk hpost
      have hc := Mem.le.refl I1
      refine fa fl41_0 rfl rfl ?_
      refine WL.nil ?_
      exact hpost _ _ hc rfl _ (fun _ hd => by obtain rfl := Option.some.inj hd; exact ⟨rfl, trivial⟩)
    · intro Q ρ I1 H hI1 hk hpost
      obtain ⟨_, -⟩ := hk
      have hc := Mem.le.refl I1
      refine ld 0 na3 rfl rfl rfl rfl ?_
      refine WL.nil ?_
      exact hpost _ _ hc rfl _ (fun _ hd => by obtain rfl := Option.some.inj hd; exact ⟨rfl, trivial⟩)
    · intro Q ρ I1 H hI1 hk hpost
      obtain ⟨_, -⟩ := hk
      have hc := Mem.le.refl I1
      refine eq rfl rfl rfl ?_
      refine WL.nil ?_
      exact hpost _ _ hc rfl _ (fun _ hd => by obtain rfl := Option.some.inj hd; exact ⟨rfl, trivial⟩)
    · intro Q ρ I1 H hI1 hk hpost
      have hc := Mem.le.refl I1
      refine fa fl41_0 rfl rfl ?_
      refine WL.nil ?_
      exact hpost _ _ hc rfl _ (fun _ hd => by obtain rfl := Option.some.inj hd; exact ⟨rfl, trivial⟩)
    · intro Q ρ I1 H hI1 hk hpost
      obtain ⟨_, -⟩ := hk
      have hc := Mem.le.refl I1
      refine ld 0 na3 rfl rfl rfl rfl ?_
      refine WL.nil ?_
      exact hpost _ _ hc rfl _ (fun _ hd => by obtain rfl := Option.some.inj hd; exact ⟨rfl, trivial⟩)
    · intro Q ρ I1 H hI1 hk hpost
      obtain ⟨_, -⟩ := hk
      have hc := Mem.le.refl I1
      refine eq rfl rfl rfl ?_
      refine WL.nil ?_
      exact hpost _ _ hc rfl _ (fun _ hd => by obtain rfl := Option.some.inj hd; exact ⟨rfl, trivial⟩)
    · intro Q ρ I1 H hI1 hk hpost
      obtain ⟨_, -⟩ := hk
      have hc := Mem.le.refl I1
      refine asg rfl rfl ?_
      refine WL.nil ?_
      exact hpost _ _ hc rfl _ (fun _ hd => by obtain rfl := Option.some.inj hd; exact ⟨rfl, trivial⟩)
    · intro Q ρ I1 H hI1 hk hpost
      obtain ⟨_, -⟩ := hk
      have hc := Mem.le.refl I1
      refine asg rfl rfl ?_
      refine WL.nil ?_
      exact hpost _ _ hc rfl _ (fun _ hd => by obtain rfl := Option.some.inj hd; exact ⟨rfl, trivial⟩)
    · intro Q ρ I1 H hI1 hk hpost
      obtain ⟨_, -⟩ := hk
      have hc := Mem.le.refl I1
      refine asg rfl rfl ?_
      refine WL.nil ?_
      exact hpost _ _ hc rfl _ (fun _ hd => by obtain rfl := Option.some.inj hd; exact ⟨rfl, trivial⟩)
    rintro ρ J76 hJ77 -
    refine WX.sub (r := [(1, (.pointer (some ⟨g1, 0, none⟩))), (3, (.bool (decide (p0.Kind = 4)))), (4, (.bool (decide (p0.Kind = 3)))), (5, (.bool (decide (p0.Kind = 4))))]) ?_ ⟨rfl, rfl, rfl, rfl, trivial⟩
    refine WX.is (H := bl g1 #[(.int .i64 p0.Kind), (.int .i64 p0.Path), (.int .i64 p0.Number), (.int .i64 p0.Of), (.int .i64 p0.From), (.slice a0_5 p0.Data.length c0_5), (.bool p0.Fin), (.int .i64 p0.Seen), (.int .i64 p0.Limit)] 41 :: G) rfl ?_
    have hI := hI.trans hJ77
    have lj72 := lj72.trans hJ77
    replace hp0_5 := hp0_5.up hJ77
    exact (kj72 ⟨(decide (p0.Kind = 4)), (decide (p0.Kind = 3)), (decide (p0.Kind = 4))⟩ _ lj72 (Option.some.inj hj72)).sub ⟨rfl, rfl, rfl, rfl, trivial⟩
  rintro ⟨x69, x70, x71⟩ J78 hJ79 rfl
  have hI := hI.trans hJ79
  replace hp0_5 := hp0_5.up hJ79
  refine WX.then_ ?_
  refine WC.seq ?_
  refine WC.seq ?_
  obtain ⟨j99, hj99, h⟩ := bnd h
  refine WC.joinQ (σ := Bool) (fun x98 => [(1, (.pointer (some ⟨g1, 0, none⟩))), (4, (.bool x70)), (5, (.bool x71)), (51, (.bool x98))]) (fun x98 => bl g1 #[(.int .i64 p0.Kind), (.int .i64 p0.Path), (.int .i64 p0.Number), (.int .i64 p0.Of), (.int .i64 p0.From), (.slice a0_5 p0.Data.length c0_5), (.bool p0.Fin), (.int .i64 p0.Seen), (.int .i64 p0.Limit)] 41 :: G) (fun x98 J => x98 = j99) (fun kj99 => ?_) ?_
  · skip
    have lj99 := Mem.le.refl J78
    refine WC.region ?_
    refine mv rfl rfl ?_
    refine mv rfl rfl ?_
    rcases spl hj99 with ⟨k100, hj99⟩ | ⟨k100, hj99⟩
    · skip
      refine WL.rb 37 rfl (bt1 k100) ?_
      refine WL.on rfl rfl ?_
      refine fa fl41_3 rfl rfl ?_
      refine WL.on rfl rfl ?_
      refine ld 0 na3 rfl rfl rfl rfl ?_
      refine WL.on rfl rfl ?_
      obtain ⟨x101, e102, hj99⟩ := bnd hj99
      refine call cl82 rfl rfl (W82 e102) (fun _ J103 _ hJ104 q105 => ?_)
      have hI := hI.trans hJ104
      have lj99 := lj99.trans hJ104
      replace hp0_5 := hp0_5.up hJ104
      obtain ⟨rfl, rfl⟩ := q105
      refine WL.on rfl rfl ?_
      refine nt rfl rfl ?_
      refine pkT rfl rfl rfl ?_
      refine mv rfl rfl ?_
      rcases spl hj99 with ⟨k106, hj99⟩ | ⟨k106, hj99⟩
      · skip
        refine WL.rb 43 rfl (bt1n k106) ?_
        refine WL.on rfl rfl ?_
        refine mv rfl rfl ?_
        refine WL.on rfl rfl ?_
        refine nt rfl rfl ?_
        refine WL.on rfl rfl ?_
        refine mv rfl rfl ?_
        rcases spl hj99 with ⟨k107, hj99⟩ | ⟨k107, hj99⟩
        · skip
          refine WL.rb 46 rfl (bt1n k107) ?_
          refine WL.no rfl rfl rfl rfl ?_
          refine WL.no rfl rfl rfl rfl ?_
          refine WL.no rfl rfl rfl rfl ?_
          refine WL.on rfl rfl ?_
          refine pkF rfl rfl rfl ?_
          refine pkF rfl rfl rfl ?_
          refine WL.nil ?_
          exact (kj99 false _ lj99 (Option.some.inj hj99)).sub ⟨rfl, rfl, rfl, rfl, trivial⟩
        refine WL.rb 46 rfl (bf1n k107) ?_
        refine WL.on rfl rfl ?_
        refine fa fl41_3 rfl rfl ?_
        refine WL.on rfl rfl ?_
        refine ld 0 na3 rfl rfl rfl rfl ?_
        refine WL.on rfl rfl ?_
        refine ne rfl rfl rfl ?_
        refine WL.on rfl rfl ?_
        refine pkT rfl rfl rfl ?_
        refine pkF rfl rfl rfl ?_
        refine WL.nil ?_
        exact (kj99 (decide (p0.Of ≠ 0)) _ lj99 (Option.some.inj hj99)).sub ⟨rfl, rfl, rfl, rfl, trivial⟩
      refine WL.rb 43 rfl (bf1n k106) ?_
      refine WL.no rfl rfl rfl rfl ?_
      refine WL.no rfl rfl rfl rfl ?_
      refine WL.no rfl rfl rfl rfl ?_
      refine WL.nu rfl rfl rfl ?_
      refine WL.nu rfl rfl rfl ?_
      refine WL.nu rfl rfl rfl ?_
      refine WL.no rfl rfl rfl rfl ?_
      refine pkT rfl rfl rfl ?_
      refine WL.nil ?_
      exact (kj99 true _ lj99 (Option.some.inj hj99)).sub ⟨rfl, rfl, rfl, rfl, trivial⟩
    refine WL.rb 37 rfl (bf1 k100) ?_
    refine WL.no rfl rfl rfl rfl ?_
    refine WL.no rfl rfl rfl rfl ?_
    refine WL.no rfl rfl rfl rfl ?_
    refine WL.no rfl rfl rfl rfl ?_
    refine pkF rfl rfl rfl ?_
    refine mv rfl rfl ?_
    refine WL.on rfl rfl ?_
    refine mv rfl rfl ?_
    refine WL.on rfl rfl ?_
    refine nt rfl rfl ?_
    refine WL.on rfl rfl ?_
    refine mv rfl rfl ?_
    rcases spl hj99 with ⟨k108, hj99⟩ | ⟨k108, hj99⟩
    · skip
      refine WL.rb 46 rfl (bt1n k108) ?_
      refine WL.no rfl rfl rfl rfl ?_
      refine WL.no rfl rfl rfl rfl ?_
      refine WL.no rfl rfl rfl rfl ?_
      refine WL.on rfl rfl ?_
      refine pkF rfl rfl rfl ?_
      refine pkF rfl rfl rfl ?_
      refine WL.nil ?_
      exact (kj99 false _ lj99 (Option.some.inj hj99)).sub ⟨rfl, rfl, rfl, rfl, trivial⟩
    refine WL.rb 46 rfl (bf1n k108) ?_
    refine WL.on rfl rfl ?_
    refine fa fl41_3 rfl rfl ?_
    refine WL.on rfl rfl ?_
    refine ld 0 na3 rfl rfl rfl rfl ?_
    refine WL.on rfl rfl ?_
    refine ne rfl rfl rfl ?_
    refine WL.on rfl rfl ?_
    refine pkT rfl rfl rfl ?_
    refine pkF rfl rfl rfl ?_
    refine WL.nil ?_
    exact (kj99 (decide (p0.Of ≠ 0)) _ lj99 (Option.some.inj hj99)).sub ⟨rfl, rfl, rfl, rfl, trivial⟩
  rintro x98 J109 hJ110 rfl
  have hI := hI.trans hJ110
  replace hp0_5 := hp0_5.up hJ110
  refine WX.then_ ?_
  refine WC.iteb rfl h (fun k111 h => ?_) (fun k111 h => ?_)
  · skip
    refine WC.seq ?_
    refine WC.region ?_
    refine asg rfl rfl ?_
    refine WL.del 0 ?_
    refine WL.next ?_
    refine WC.ret ?_
    refine WX.then_ret ?_
    cases h
    exact ret1 Try.results66 rfl hI ⟨rfl, rfl⟩
  refine WC.skip ?_
  refine WX.then_ ?_
  refine WC.seq ?_
  refine WC.seq ?_
  obtain ⟨j147, hj147, h⟩ := bnd h
  refine WC.joinQ (σ := Bool) (fun x146 => [(1, (.pointer (some ⟨g1, 0, none⟩))), (5, (.bool x71)), (92, (.bool x146))]) (fun x146 => bl g1 #[(.int .i64 p0.Kind), (.int .i64 p0.Path), (.int .i64 p0.Number), (.int .i64 p0.Of), (.int .i64 p0.From), (.slice a0_5 p0.Data.length c0_5), (.bool p0.Fin), (.int .i64 p0.Seen), (.int .i64 p0.Limit)] 41 :: G) (fun x146 J => x146 = j147) (fun kj147 => ?_) ?_
  · skip
    have lj147 := Mem.le.refl J109
    refine WC.region ?_
    refine mv rfl rfl ?_
    refine mv rfl rfl ?_
    rcases spl hj147 with ⟨k148, hj147⟩ | ⟨k148, hj147⟩
    · skip
      refine WL.rb 53 rfl (bt1 k148) ?_
      refine WL.on rfl rfl ?_
      refine fa fl41_4 rfl rfl ?_
      refine WL.on rfl rfl ?_
      refine ld 0 na3 rfl rfl rfl rfl ?_
      refine WL.on rfl rfl ?_
      obtain ⟨x149, e150, hj147⟩ := bnd hj147
      refine call cl82 rfl rfl (W82 e150) (fun _ J151 _ hJ152 q153 => ?_)
      have hI := hI.trans hJ152
      have lj147 := lj147.trans hJ152
      replace hp0_5 := hp0_5.up hJ152
      obtain ⟨rfl, rfl⟩ := q153
      refine WL.on rfl rfl ?_
      refine nt rfl rfl ?_
      refine WL.on rfl rfl ?_
      refine mv rfl rfl ?_
      rcases spl hj147 with ⟨k154, hj147⟩ | ⟨k154, hj147⟩
      · skip
        refine WL.rb 58 rfl (bt1n k154) ?_
        refine WL.on rfl rfl ?_
        refine fa fl41_5 rfl rfl ?_
        refine WL.on rfl rfl ?_
        refine ld 0 na22 rfl rfl rfl rfl ?_
        refine WL.on rfl rfl ?_
        refine ln et22 rfl (hp0_5.rd) rfl ?_
        refine WL.on rfl rfl ?_
        refine gt rfl rfl rfl ?_
        refine WL.on rfl rfl ?_
        refine pkF rfl rfl rfl ?_
        refine WL.on rfl rfl ?_
        refine mv rfl rfl ?_
        rcases spl hj147 with ⟨k155, hj147⟩ | ⟨k155, hj147⟩
        · skip
          refine WL.rb 64 rfl (bT k155) ?_
          refine WL.no rfl rfl rfl rfl ?_
          refine WL.no rfl rfl rfl rfl ?_
          refine WL.no rfl rfl rfl rfl ?_
          refine WL.no rfl rfl rfl rfl ?_
          refine WL.no rfl rfl rfl rfl ?_
          refine WL.no rfl rfl rfl rfl ?_
          refine WL.no rfl rfl rfl rfl ?_
          refine WL.on rfl rfl ?_
          refine pkT rfl rfl rfl ?_
          refine pkT rfl rfl rfl ?_
          refine mv rfl rfl ?_
          refine WL.no rfl rfl rfl rfl ?_
          refine WL.no rfl rfl rfl rfl ?_
          refine WL.no rfl rfl rfl rfl ?_
          refine WL.nu rfl rfl rfl ?_
          refine WL.nu rfl rfl rfl ?_
          refine WL.nu rfl rfl rfl ?_
          refine WL.nu rfl rfl rfl ?_
          refine WL.nu rfl rfl rfl ?_
          refine WL.nu rfl rfl rfl ?_
          refine WL.nu rfl rfl rfl ?_
          refine WL.nu rfl rfl rfl ?_
          refine WL.nu rfl rfl rfl ?_
          refine WL.nu rfl rfl rfl ?_
          refine WL.nu rfl rfl rfl ?_
          refine WL.nu rfl rfl rfl ?_
          refine WL.nu rfl rfl rfl ?_
          refine WL.no rfl rfl rfl rfl ?_
          refine pkT rfl rfl rfl ?_
          refine WL.nil ?_
          exact (kj147 true _ lj147 (Option.some.inj hj147)).sub ⟨rfl, rfl, rfl, trivial⟩
        refine WL.rb 64 rfl (bF k155) ?_
        refine WL.on rfl rfl ?_
        refine fa fl41_4 rfl rfl ?_
        refine WL.on rfl rfl ?_
        refine ld 0 na3 rfl rfl rfl rfl ?_
        refine WL.on rfl rfl ?_
        refine fa fl41_5 rfl rfl ?_
        refine WL.on rfl rfl ?_
        refine ld 0 na22 rfl rfl rfl rfl ?_
        refine WL.on rfl rfl ?_
        refine ln et22 rfl (hp0_5.rd) rfl ?_
        refine WL.on rfl rfl ?_
        refine ad rfl rfl rfl ?_
        obtain ⟨x156, e157, hj147⟩ := bnd hj147
        refine WL.re (congrArg (Value.int .i64) (Option.some.inj e157)) ?_
        refine WL.on rfl rfl ?_
        refine gt rfl rfl rfl ?_
        refine WL.on rfl rfl ?_
        refine pkF rfl rfl rfl ?_
        refine pkT rfl rfl rfl ?_
        refine mv rfl rfl ?_
        rcases spl hj147 with ⟨k158, hj147⟩ | ⟨k158, hj147⟩
        · skip
          refine WL.rb 74 rfl (bT k158) ?_
          refine WL.no rfl rfl rfl rfl ?_
          refine WL.no rfl rfl rfl rfl ?_
          refine WL.no rfl rfl rfl rfl ?_
          refine WL.nu rfl rfl rfl ?_
          refine WL.nu rfl rfl rfl ?_
          refine WL.nu rfl rfl rfl ?_
          refine WL.nu rfl rfl rfl ?_
          refine WL.nu rfl rfl rfl ?_
          refine WL.nu rfl rfl rfl ?_
          refine WL.nu rfl rfl rfl ?_
          refine WL.nu rfl rfl rfl ?_
          refine WL.nu rfl rfl rfl ?_
          refine WL.nu rfl rfl rfl ?_
          refine WL.nu rfl rfl rfl ?_
          refine WL.nu rfl rfl rfl ?_
          refine WL.nu rfl rfl rfl ?_
          refine WL.no rfl rfl rfl rfl ?_
          refine pkT rfl rfl rfl ?_
          refine WL.nil ?_
          exact (kj147 true _ lj147 (Option.some.inj hj147)).sub ⟨rfl, rfl, rfl, trivial⟩
        refine WL.rb 74 rfl (bF k158) ?_
        refine WL.on rfl rfl ?_
        refine mv rfl rfl ?_
        refine WL.on rfl rfl ?_
        refine nt rfl rfl ?_
        refine WL.on rfl rfl ?_
        refine mv rfl rfl ?_
        rcases spl hj147 with ⟨k159, hj147⟩ | ⟨k159, hj147⟩
        · skip
          refine WL.rb 77 rfl (bt1n k159) ?_
          refine WL.no rfl rfl rfl rfl ?_
          refine WL.no rfl rfl rfl rfl ?_
          refine WL.no rfl rfl rfl rfl ?_
          refine WL.no rfl rfl rfl rfl ?_
          refine WL.nu rfl rfl rfl ?_
          refine WL.nu rfl rfl rfl ?_
          refine WL.nu rfl rfl rfl ?_
          refine WL.nu rfl rfl rfl ?_
          refine WL.no rfl rfl rfl rfl ?_
          refine WL.no rfl rfl rfl rfl ?_
          refine WL.nu rfl rfl rfl ?_
          refine WL.nu rfl rfl rfl ?_
          refine WL.no rfl rfl rfl rfl ?_
          refine WL.on rfl rfl ?_
          refine pkF rfl rfl rfl ?_
          refine pkF rfl rfl rfl ?_
          refine WL.nil ?_
          exact (kj147 false _ lj147 (Option.some.inj hj147)).sub ⟨rfl, rfl, rfl, trivial⟩
        refine WL.rb 77 rfl (bf1n k159) ?_
        refine WL.on rfl rfl ?_
        refine fa fl41_4 rfl rfl ?_
        refine WL.on rfl rfl ?_
        refine ld 0 na3 rfl rfl rfl rfl ?_
        refine WL.on rfl rfl ?_
        refine ne rfl rfl rfl ?_
        refine WL.on rfl rfl ?_
        refine mv rfl rfl ?_
        rcases spl hj147 with ⟨k160, hj147⟩ | ⟨k160, hj147⟩
        · skip
          refine WL.rb 81 rfl (bT k160) ?_
          refine WL.no rfl rfl rfl rfl ?_
          refine WL.no rfl rfl rfl rfl ?_
          refine WL.no rfl rfl rfl rfl ?_
          refine WL.no rfl rfl rfl rfl ?_
          refine WL.on rfl rfl ?_
          refine pkT rfl rfl rfl ?_
          refine WL.on rfl rfl ?_
          refine mv rfl rfl ?_
          refine WL.no rfl rfl rfl rfl ?_
          refine WL.no rfl rfl rfl rfl ?_
          refine WL.on rfl rfl ?_
          refine pkT rfl rfl rfl ?_
          refine WL.on rfl rfl ?_
          refine pkT rfl rfl rfl ?_
          refine pkF rfl rfl rfl ?_
          refine WL.nil ?_
          exact (kj147 true _ lj147 (Option.some.inj hj147)).sub ⟨rfl, rfl, rfl, trivial⟩
        refine WL.rb 81 rfl (bF k160) ?_
        refine WL.on rfl rfl ?_
        refine fa fl41_5 rfl rfl ?_
        refine WL.on rfl rfl ?_
        refine ld 0 na22 rfl rfl rfl rfl ?_
        refine WL.on rfl rfl ?_
        refine ln et22 rfl (hp0_5.rd) rfl ?_
        refine WL.on rfl rfl ?_
        refine gt rfl rfl rfl ?_
        refine WL.on rfl rfl ?_
        refine pkF rfl rfl rfl ?_
        refine WL.on rfl rfl ?_
        refine mv rfl rfl ?_
        rcases spl hj147 with ⟨k161, hj147⟩ | ⟨k161, hj147⟩
        · skip
          refine WL.rb 87 rfl (bT k161) ?_
          refine WL.no rfl rfl rfl rfl ?_
          refine WL.no rfl rfl rfl rfl ?_
          refine WL.on rfl rfl ?_
          refine pkT rfl rfl rfl ?_
          refine WL.on rfl rfl ?_
          refine pkT rfl rfl rfl ?_
          refine pkF rfl rfl rfl ?_
          refine WL.nil ?_
          exact (kj147 true _ lj147 (Option.some.inj hj147)).sub ⟨rfl, rfl, rfl, trivial⟩
        refine WL.rb 87 rfl (bF k161) ?_
        refine WL.on rfl rfl ?_
        refine fa fl41_6 rfl rfl ?_
        refine WL.on rfl rfl ?_
        refine ld 0 na4 rfl rfl rfl rfl ?_
        refine WL.on rfl rfl ?_
        refine pkF rfl rfl rfl ?_
        refine WL.on rfl rfl ?_
        refine pkT rfl rfl rfl ?_
        refine pkF rfl rfl rfl ?_
        refine WL.nil ?_
        exact (kj147 p0.Fin _ lj147 (Option.some.inj hj147)).sub ⟨rfl, rfl, rfl, trivial⟩
      refine WL.rb 58 rfl (bf1n k154) ?_
      refine WL.no rfl rfl rfl rfl ?_
      refine WL.no rfl rfl rfl rfl ?_
      refine WL.no rfl rfl rfl rfl ?_
      refine WL.no rfl rfl rfl rfl ?_
      refine WL.on rfl rfl ?_
      refine pkT rfl rfl rfl ?_
      refine WL.on rfl rfl ?_
      refine mv rfl rfl ?_
      refine WL.no rfl rfl rfl rfl ?_
      refine WL.no rfl rfl rfl rfl ?_
      refine WL.no rfl rfl rfl rfl ?_
      refine WL.no rfl rfl rfl rfl ?_
      refine WL.no rfl rfl rfl rfl ?_
      refine WL.no rfl rfl rfl rfl ?_
      refine WL.no rfl rfl rfl rfl ?_
      refine WL.on rfl rfl ?_
      refine pkT rfl rfl rfl ?_
      refine pkT rfl rfl rfl ?_
      refine mv rfl rfl ?_
      refine WL.no rfl rfl rfl rfl ?_
      refine WL.no rfl rfl rfl rfl ?_
      refine WL.no rfl rfl rfl rfl ?_
      refine WL.nu rfl rfl rfl ?_
      refine WL.nu rfl rfl rfl ?_
      refine WL.nu rfl rfl rfl ?_
      refine WL.nu rfl rfl rfl ?_
      refine WL.nu rfl rfl rfl ?_
      refine WL.nu rfl rfl rfl ?_
      refine WL.nu rfl rfl rfl ?_
      refine WL.nu rfl rfl rfl ?_
      refine WL.nu rfl rfl rfl ?_
      refine WL.nu rfl rfl rfl ?_
      refine WL.nu rfl rfl rfl ?_
      refine WL.nu rfl rfl rfl ?_
      refine WL.nu rfl rfl rfl ?_
      refine WL.no rfl rfl rfl rfl ?_
      refine pkT rfl rfl rfl ?_
      refine WL.nil ?_
      exact (kj147 true _ lj147 (Option.some.inj hj147)).sub ⟨rfl, rfl, rfl, trivial⟩
    refine WL.rb 53 rfl (bf1 k148) ?_
    refine WL.no rfl rfl rfl rfl ?_
    refine WL.no rfl rfl rfl rfl ?_
    refine WL.no rfl rfl rfl rfl ?_
    refine WL.no rfl rfl rfl rfl ?_
    refine WL.no rfl rfl rfl rfl ?_
    refine WL.nu rfl rfl rfl ?_
    refine WL.nu rfl rfl rfl ?_
    refine WL.nu rfl rfl rfl ?_
    refine WL.nu rfl rfl rfl ?_
    refine WL.no rfl rfl rfl rfl ?_
    refine WL.no rfl rfl rfl rfl ?_
    refine WL.nu rfl rfl rfl ?_
    refine WL.nu rfl rfl rfl ?_
    refine WL.nu rfl rfl rfl ?_
    refine WL.nu rfl rfl rfl ?_
    refine WL.nu rfl rfl rfl ?_
    refine WL.nu rfl rfl rfl ?_
    refine WL.nu rfl rfl rfl ?_
    refine WL.no rfl rfl rfl rfl ?_
    refine pkF rfl rfl rfl ?_
    refine mv rfl rfl ?_
    refine WL.on rfl rfl ?_
    refine mv rfl rfl ?_
    refine WL.on rfl rfl ?_
    refine nt rfl rfl ?_
    refine WL.on rfl rfl ?_
    refine mv rfl rfl ?_
    rcases spl hj147 with ⟨k162, hj147⟩ | ⟨k162, hj147⟩
    · skip
      refine WL.rb 77 rfl (bt1n k162) ?_
      refine WL.no rfl rfl rfl rfl ?_
      refine WL.no rfl rfl rfl rfl ?_
      refine WL.no rfl rfl rfl rfl ?_
      refine WL.no rfl rfl rfl rfl ?_
      refine WL.nu rfl rfl rfl ?_
      refine WL.nu rfl rfl rfl ?_
      refine WL.nu rfl rfl rfl ?_
      refine WL.nu rfl rfl rfl ?_
      refine WL.no rfl rfl rfl rfl ?_
      refine WL.no rfl rfl rfl rfl ?_
      refine WL.nu rfl rfl rfl ?_
      refine WL.nu rfl rfl rfl ?_
      refine WL.no rfl rfl rfl rfl ?_
      refine WL.on rfl rfl ?_
      refine pkF rfl rfl rfl ?_
      refine pkF rfl rfl rfl ?_
      refine WL.nil ?_
      exact (kj147 false _ lj147 (Option.some.inj hj147)).sub ⟨rfl, rfl, rfl, trivial⟩
    refine WL.rb 77 rfl (bf1n k162) ?_
    refine WL.on rfl rfl ?_
    refine fa fl41_4 rfl rfl ?_
    refine WL.on rfl rfl ?_
    refine ld 0 na3 rfl rfl rfl rfl ?_
    refine WL.on rfl rfl ?_
    refine ne rfl rfl rfl ?_
    refine WL.on rfl rfl ?_
    refine mv rfl rfl ?_
    rcases spl hj147 with ⟨k163, hj147⟩ | ⟨k163, hj147⟩
    · skip
      refine WL.rb 81 rfl (bT k163) ?_
      refine WL.no rfl rfl rfl rfl ?_
      refine WL.no rfl rfl rfl rfl ?_
      refine WL.no rfl rfl rfl rfl ?_
      refine WL.no rfl rfl rfl rfl ?_
      refine WL.on rfl rfl ?_
      refine pkT rfl rfl rfl ?_
      refine WL.on rfl rfl ?_
      refine mv rfl rfl ?_
      refine WL.no rfl rfl rfl rfl ?_
      refine WL.no rfl rfl rfl rfl ?_
      refine WL.on rfl rfl ?_
      refine pkT rfl rfl rfl ?_
      refine WL.on rfl rfl ?_
      refine pkT rfl rfl rfl ?_
      refine pkF rfl rfl rfl ?_
      refine WL.nil ?_
      exact (kj147 true _ lj147 (Option.some.inj hj147)).sub ⟨rfl, rfl, rfl, trivial⟩
    refine WL.rb 81 rfl (bF k163) ?_
    refine WL.on rfl rfl ?_
    refine fa fl41_5 rfl rfl ?_
    refine WL.on rfl rfl ?_
    refine ld 0 na22 rfl rfl rfl rfl ?_
    refine WL.on rfl rfl ?_
    refine ln et22 rfl (hp0_5.rd) rfl ?_
    refine WL.on rfl rfl ?_
    refine gt rfl rfl rfl ?_
    refine WL.on rfl rfl ?_
    refine pkF rfl rfl rfl ?_
    refine WL.on rfl rfl ?_
    refine mv rfl rfl ?_
    rcases spl hj147 with ⟨k164, hj147⟩ | ⟨k164, hj147⟩
    · skip
      refine WL.rb 87 rfl (bT k164) ?_
      refine WL.no rfl rfl rfl rfl ?_
      refine WL.no rfl rfl rfl rfl ?_
      refine WL.on rfl rfl ?_
      refine pkT rfl rfl rfl ?_
      refine WL.on rfl rfl ?_
      refine pkT rfl rfl rfl ?_
      refine pkF rfl rfl rfl ?_
      refine WL.nil ?_
      exact (kj147 true _ lj147 (Option.some.inj hj147)).sub ⟨rfl, rfl, rfl, trivial⟩
    refine WL.rb 87 rfl (bF k164) ?_
    refine WL.on rfl rfl ?_
    refine fa fl41_6 rfl rfl ?_
    refine WL.on rfl rfl ?_
    refine ld 0 na4 rfl rfl rfl rfl ?_
    refine WL.on rfl rfl ?_
    refine pkF rfl rfl rfl ?_
    refine WL.on rfl rfl ?_
    refine pkT rfl rfl rfl ?_
    refine pkF rfl rfl rfl ?_
    refine WL.nil ?_
    exact (kj147 p0.Fin _ lj147 (Option.some.inj hj147)).sub ⟨rfl, rfl, rfl, trivial⟩
  rintro x146 J165 hJ166 rfl
  have hI := hI.trans hJ166
  replace hp0_5 := hp0_5.up hJ166
  refine WX.then_ ?_
  refine WC.iteb rfl h (fun k167 h => ?_) (fun k167 h => ?_)
  · skip
    refine WC.seq ?_
    refine WC.region ?_
    refine asg rfl rfl ?_
    refine WL.del 0 ?_
    refine WL.next ?_
    refine WC.ret ?_
    refine WX.then_ret ?_
    cases h
    exact ret1 Try.results66 rfl hI ⟨rfl, rfl⟩
  refine WC.skip ?_
  refine WX.then_ ?_
  refine WC.seq ?_
  refine WC.region ?_
  refine mv rfl rfl ?_
  refine mv rfl rfl ?_
  rcases spl h with ⟨k168, h⟩ | ⟨k168, h⟩
  · skip
    refine WL.rb 94 rfl (bt1 k168) ?_
    refine WL.on rfl rfl ?_
    refine fa fl41_7 rfl rfl ?_
    refine WL.on rfl rfl ?_
    refine ld 0 na3 rfl rfl rfl rfl ?_
    refine WL.on rfl rfl ?_
    obtain ⟨x169, e170, h⟩ := bnd h
    refine call cl82 rfl rfl (W82 e170) (fun _ J171 _ hJ172 q173 => ?_)
    have hI := hI.trans hJ172
    replace hp0_5 := hp0_5.up hJ172
    obtain ⟨rfl, rfl⟩ := q173
    refine pkT rfl rfl rfl ?_
    refine mv rfl rfl ?_
    rcases spl h with ⟨k174, h⟩ | ⟨k174, h⟩
    · skip
      refine WL.rb 99 rfl (bt1 k174) ?_
      refine WL.on rfl rfl ?_
      refine fa fl41_8 rfl rfl ?_
      refine WL.on rfl rfl ?_
      refine ld 0 na3 rfl rfl rfl rfl ?_
      refine WL.on rfl rfl ?_
      obtain ⟨x175, e176, h⟩ := bnd h
      refine call cl82 rfl rfl (W82 e176) (fun _ J177 _ hJ178 q179 => ?_)
      have hI := hI.trans hJ178
      replace hp0_5 := hp0_5.up hJ178
      obtain ⟨rfl, rfl⟩ := q179
      refine pkT rfl rfl rfl ?_
      refine mv rfl rfl ?_
      rcases spl h with ⟨k180, h⟩ | ⟨k180, h⟩
      · skip
        refine WL.rb 104 rfl (bt1 k180) ?_
        refine WL.no rfl rfl rfl rfl ?_
        refine WL.no rfl rfl rfl rfl ?_
        refine WL.no rfl rfl rfl rfl ?_
        refine WL.nu rfl rfl rfl ?_
        refine WL.nu rfl rfl rfl ?_
        refine WL.nu rfl rfl rfl ?_
        refine WL.no rfl rfl rfl rfl ?_
        refine WL.no rfl rfl rfl rfl ?_
        refine WL.nu rfl rfl rfl ?_
        refine WL.nu rfl rfl rfl ?_
        refine WL.nu rfl rfl rfl ?_
        refine WL.no rfl rfl rfl rfl ?_
        refine pkT rfl rfl rfl ?_
        refine asg rfl rfl ?_
        refine WL.del 0 ?_
        refine WL.next ?_
        refine WC.ret ?_
        cases h
        exact ret1 Try.results66 rfl hI ⟨rfl, rfl⟩
      refine WL.rb 104 rfl (bf1 k180) ?_
      refine WL.on rfl rfl ?_
      refine mv rfl rfl ?_
      refine WL.on rfl rfl ?_
      refine nt rfl rfl ?_
      refine WL.on rfl rfl ?_
      refine mv rfl rfl ?_
      rcases spl h with ⟨k181, h⟩ | ⟨k181, h⟩
      · skip
        refine WL.rb 107 rfl (bt1n k181) ?_
        refine WL.no rfl rfl rfl rfl ?_
        refine WL.no rfl rfl rfl rfl ?_
        refine WL.no rfl rfl rfl rfl ?_
        refine WL.on rfl rfl ?_
        refine pkF rfl rfl rfl ?_
        refine WL.on rfl rfl ?_
        refine mv rfl rfl ?_
        refine WL.no rfl rfl rfl rfl ?_
        refine WL.no rfl rfl rfl rfl ?_
        refine WL.no rfl rfl rfl rfl ?_
        refine WL.on rfl rfl ?_
        refine pkF rfl rfl rfl ?_
        refine pkF rfl rfl rfl ?_
        refine asg rfl rfl ?_
        refine WL.del 0 ?_
        refine WL.next ?_
        refine WC.ret ?_
        cases h
        exact ret1 Try.results66 rfl hI ⟨rfl, rfl⟩
      refine WL.rb 107 rfl (bf1n k181) ?_
      refine WL.on rfl rfl ?_
      refine fa fl41_7 rfl rfl ?_
      refine WL.on rfl rfl ?_
      refine ld 0 na3 rfl rfl rfl rfl ?_
      refine WL.on rfl rfl ?_
      refine eq rfl rfl rfl ?_
      refine WL.on rfl rfl ?_
      refine pkT rfl rfl rfl ?_
      refine WL.on rfl rfl ?_
      refine mv rfl rfl ?_
      rcases spl h with ⟨k182, h⟩ | ⟨k182, h⟩
      · skip
        refine WL.rb 112 rfl (bT k182) ?_
        refine WL.on rfl rfl ?_
        refine fa fl41_8 rfl rfl ?_
        refine WL.on rfl rfl ?_
        refine ld 0 na3 rfl rfl rfl rfl ?_
        refine WL.on rfl rfl ?_
        refine eq rfl rfl rfl ?_
        refine WL.on rfl rfl ?_
        refine pkT rfl rfl rfl ?_
        refine pkF rfl rfl rfl ?_
        refine asg rfl rfl ?_
        refine WL.del 0 ?_
        refine WL.next ?_
        refine WC.ret ?_
        cases h
        exact ret1 Try.results66 rfl hI ⟨rfl, rfl⟩
      refine WL.rb 112 rfl (bF k182) ?_
      refine WL.no rfl rfl rfl rfl ?_
      refine WL.no rfl rfl rfl rfl ?_
      refine WL.no rfl rfl rfl rfl ?_
      refine WL.on rfl rfl ?_
      refine pkF rfl rfl rfl ?_
      refine pkF rfl rfl rfl ?_
      refine asg rfl rfl ?_
      refine WL.del 0 ?_
      refine WL.next ?_
      refine WC.ret ?_
      cases h
      exact ret1 Try.results66 rfl hI ⟨rfl, rfl⟩
    refine WL.rb 99 rfl (bf1 k174) ?_
    refine WL.no rfl rfl rfl rfl ?_
    refine WL.no rfl rfl rfl rfl ?_
    refine WL.no rfl rfl rfl rfl ?_
    refine pkF rfl rfl rfl ?_
    refine mv rfl rfl ?_
    refine WL.on rfl rfl ?_
    refine mv rfl rfl ?_
    refine WL.on rfl rfl ?_
    refine nt rfl rfl ?_
    refine WL.on rfl rfl ?_
    refine mv rfl rfl ?_
    rcases spl h with ⟨k183, h⟩ | ⟨k183, h⟩
    · skip
      refine WL.rb 107 rfl (bt1n k183) ?_
      refine WL.no rfl rfl rfl rfl ?_
      refine WL.no rfl rfl rfl rfl ?_
      refine WL.no rfl rfl rfl rfl ?_
      refine WL.on rfl rfl ?_
      refine pkF rfl rfl rfl ?_
      refine WL.on rfl rfl ?_
      refine mv rfl rfl ?_
      refine WL.no rfl rfl rfl rfl ?_
      refine WL.no rfl rfl rfl rfl ?_
      refine WL.no rfl rfl rfl rfl ?_
      refine WL.on rfl rfl ?_
      refine pkF rfl rfl rfl ?_
      refine pkF rfl rfl rfl ?_
      refine asg rfl rfl ?_
      refine WL.del 0 ?_
      refine WL.next ?_
      refine WC.ret ?_
      cases h
      exact ret1 Try.results66 rfl hI ⟨rfl, rfl⟩
    refine WL.rb 107 rfl (bf1n k183) ?_
    refine WL.on rfl rfl ?_
    refine fa fl41_7 rfl rfl ?_
    refine WL.on rfl rfl ?_
    refine ld 0 na3 rfl rfl rfl rfl ?_
    refine WL.on rfl rfl ?_
    refine eq rfl rfl rfl ?_
    refine WL.on rfl rfl ?_
    refine pkT rfl rfl rfl ?_
    refine WL.on rfl rfl ?_
    refine mv rfl rfl ?_
    rcases spl h with ⟨k184, h⟩ | ⟨k184, h⟩
    · skip
      refine WL.rb 112 rfl (bT k184) ?_
      refine WL.on rfl rfl ?_
      refine fa fl41_8 rfl rfl ?_
      refine WL.on rfl rfl ?_
      refine ld 0 na3 rfl rfl rfl rfl ?_
      refine WL.on rfl rfl ?_
      refine eq rfl rfl rfl ?_
      refine WL.on rfl rfl ?_
      refine pkT rfl rfl rfl ?_
      refine pkF rfl rfl rfl ?_
      refine asg rfl rfl ?_
      refine WL.del 0 ?_
      refine WL.next ?_
      refine WC.ret ?_
      cases h
      exact ret1 Try.results66 rfl hI ⟨rfl, rfl⟩
    refine WL.rb 112 rfl (bF k184) ?_
    refine WL.no rfl rfl rfl rfl ?_
    refine WL.no rfl rfl rfl rfl ?_
    refine WL.no rfl rfl rfl rfl ?_
    refine WL.on rfl rfl ?_
    refine pkF rfl rfl rfl ?_
    refine pkF rfl rfl rfl ?_
    refine asg rfl rfl ?_
    refine WL.del 0 ?_
    refine WL.next ?_
    refine WC.ret ?_
    cases h
    exact ret1 Try.results66 rfl hI ⟨rfl, rfl⟩
  refine WL.rb 94 rfl (bf1 k168) ?_
  refine WL.no rfl rfl rfl rfl ?_
  refine WL.no rfl rfl rfl rfl ?_
  refine WL.no rfl rfl rfl rfl ?_
  refine pkF rfl rfl rfl ?_
  refine mv rfl rfl ?_
  refine WL.no rfl rfl rfl rfl ?_
  refine WL.no rfl rfl rfl rfl ?_
  refine WL.no rfl rfl rfl rfl ?_
  refine pkF rfl rfl rfl ?_
  refine mv rfl rfl ?_
  refine WL.on rfl rfl ?_
  refine mv rfl rfl ?_
  refine WL.on rfl rfl ?_
  refine nt rfl rfl ?_
  refine WL.on rfl rfl ?_
  refine mv rfl rfl ?_
  rcases spl h with ⟨k185, h⟩ | ⟨k185, h⟩
  · skip
    refine WL.rb 107 rfl (bt1n k185) ?_
    refine WL.no rfl rfl rfl rfl ?_
    refine WL.no rfl rfl rfl rfl ?_
    refine WL.no rfl rfl rfl rfl ?_
    refine WL.on rfl rfl ?_
    refine pkF rfl rfl rfl ?_
    refine WL.on rfl rfl ?_
    refine mv rfl rfl ?_
    refine WL.no rfl rfl rfl rfl ?_
    refine WL.no rfl rfl rfl rfl ?_
    refine WL.no rfl rfl rfl rfl ?_
    refine WL.on rfl rfl ?_
    refine pkF rfl rfl rfl ?_
    refine pkF rfl rfl rfl ?_
    refine asg rfl rfl ?_
    refine WL.del 0 ?_
    refine WL.next ?_
    refine WC.ret ?_
    cases h
    exact ret1 Try.results66 rfl hI ⟨rfl, rfl⟩
  refine WL.rb 107 rfl (bf1n k185) ?_
  refine WL.on rfl rfl ?_
  refine fa fl41_7 rfl rfl ?_
  refine WL.on rfl rfl ?_
  refine ld 0 na3 rfl rfl rfl rfl ?_
  refine WL.on rfl rfl ?_
  refine eq rfl rfl rfl ?_
  refine WL.on rfl rfl ?_
  refine pkT rfl rfl rfl ?_
  refine WL.on rfl rfl ?_
  refine mv rfl rfl ?_
  rcases spl h with ⟨k186, h⟩ | ⟨k186, h⟩
  · skip
    refine WL.rb 112 rfl (bT k186) ?_
    refine WL.on rfl rfl ?_
    refine fa fl41_8 rfl rfl ?_
    refine WL.on rfl rfl ?_
    refine ld 0 na3 rfl rfl rfl rfl ?_
    refine WL.on rfl rfl ?_
    refine eq rfl rfl rfl ?_
    refine WL.on rfl rfl ?_
    refine pkT rfl rfl rfl ?_
    refine pkF rfl rfl rfl ?_
    refine asg rfl rfl ?_
    refine WL.del 0 ?_
    refine WL.next ?_
    refine WC.ret ?_
    cases h
    exact ret1 Try.results66 rfl hI ⟨rfl, rfl⟩
  refine WL.rb 112 rfl (bF k186) ?_
  refine WL.no rfl rfl rfl rfl ?_
  refine WL.no rfl rfl rfl rfl ?_
  refine WL.no rfl rfl rfl rfl ?_
  refine WL.on rfl rfl ?_
  refine pkF rfl rfl rfl ?_
  refine pkF rfl rfl rfl ?_
  refine asg rfl rfl ?_
  refine WL.del 0 ?_
  refine WL.next ?_
  refine WC.ret ?_
  cases h
  exact ret1 Try.results66 rfl hI ⟨rfl, rfl⟩
theorem W72 {I : Mem} {G : List Asn} {p0 : Int} {r : Int} (h : haulierref01_Size p0 = some r) :
    CallsS Try.prog 72 #[.int .i64 p0] I (G) (fun v J G' => v = .int .i64 r ∧ G = G') := by
  refine CallsS.enter Try.func72 rfl Try.ntmps72 rfl (fun w0 => ?_)
  have hI := Mem.le.refl I
  unfold haulierref01_Size at h
  refine WC.seq ?_
  refine WC.region ?_
  refine asg rfl rfl ?_
  refine WL.next ?_
  refine WC.seq ?_
  refine WC.block ?_
  refine WC.seq ?_
  refine WC.region ?_
  refine mv rfl rfl ?_
  refine lt rfl rfl rfl ?_
  refine mv rfl rfl ?_
  rcases spl h with ⟨k1, h⟩ | ⟨k1, h⟩
  · skip
    refine WL.rb 6 rfl (bT k1) ?_
    refine WL.no rfl rfl rfl rfl ?_
    refine WL.no rfl rfl rfl rfl ?_
    refine pkT rfl rfl rfl ?_
    refine asg rfl rfl ?_
    refine WL.next ?_
    refine WC.cond rfl (fun _ => ?_) (fun k => by cases k)
    refine WC.seq ?_
    refine WC.region ?_
    refine asg rfl rfl ?_
    refine WL.next ?_
    refine WC.ret ?_
    refine WX.block_ret ?_
    refine WX.then_ret ?_
    cases h
    exact ret1 Try.results72 rfl hI ⟨rfl, rfl⟩
  refine WL.rb 6 rfl (bF k1) ?_
  refine WL.on rfl rfl ?_
  refine mv rfl rfl ?_
  refine WL.on rfl rfl ?_
  refine gt rfl rfl rfl ?_
  refine pkF rfl rfl rfl ?_
  refine asg rfl rfl ?_
  refine WL.next ?_
  refine WC.ite rfl h (fun k2 h => ?_) (fun k2 h => ?_)
  · skip
    refine WC.seq ?_
    refine WC.region ?_
    refine asg rfl rfl ?_
    refine WL.next ?_
    refine WC.ret ?_
    refine WX.block_ret ?_
    refine WX.then_ret ?_
    cases h
    exact ret1 Try.results72 rfl hI ⟨rfl, rfl⟩
  refine WC.seq ?_
  refine WC.region ?_
  refine mv rfl rfl ?_
  refine lt rfl rfl rfl ?_
  refine asg rfl rfl ?_
  refine WL.next ?_
  refine WC.ite rfl h (fun k3 h => ?_) (fun k3 h => ?_)
  · skip
    refine WC.seq ?_
    refine WC.region ?_
    refine asg rfl rfl ?_
    refine WL.next ?_
    refine WC.ret ?_
    refine WX.block_ret ?_
    refine WX.then_ret ?_
    cases h
    exact ret1 Try.results72 rfl hI ⟨rfl, rfl⟩
  refine WC.seq ?_
  refine WC.region ?_
  refine mv rfl rfl ?_
  refine lt rfl rfl rfl ?_
  refine asg rfl rfl ?_
  refine WL.next ?_
  refine WC.ite rfl h (fun k4 h => ?_) (fun k4 h => ?_)
  · skip
    refine WC.seq ?_
    refine WC.region ?_
    refine asg rfl rfl ?_
    refine WL.next ?_
    refine WC.ret ?_
    refine WX.block_ret ?_
    refine WX.then_ret ?_
    cases h
    exact ret1 Try.results72 rfl hI ⟨rfl, rfl⟩
  refine WC.seq ?_
  refine WC.region ?_
  refine mv rfl rfl ?_
  refine lt rfl rfl rfl ?_
  refine asg rfl rfl ?_
  refine WL.next ?_
  refine WC.ite rfl h (fun k5 h => ?_) (fun k5 h => ?_)
  · skip
    refine WC.seq ?_
    refine WC.region ?_
    refine asg rfl rfl ?_
    refine WL.next ?_
    refine WC.ret ?_
    refine WX.block_ret ?_
    refine WX.then_ret ?_
    cases h
    exact ret1 Try.results72 rfl hI ⟨rfl, rfl⟩
  refine WC.skip ?_
  refine WX.block_normal ?_
  refine WX.then_ ?_
  refine WC.seq ?_
  refine WC.region ?_
  refine asg rfl rfl ?_
  refine WL.next ?_
  refine WC.ret ?_
  cases h
  exact ret1 Try.results72 rfl hI ⟨rfl, rfl⟩
end Go.Proofs.Ytgobccnphhljcaa
