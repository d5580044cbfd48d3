/- Printed by a program of this session: walks of Go functions. -/
import Derived.Test.YtgobccnphhljcaaKf
import Derived.Test.YtgobccnphhljcaaDf
import Derived.Test.YtgobccnphhljcaaKU0
import Derived.Test.YtgobccnphhljcaaKU1
import Derived.Test.YtgobccnphhljcaaKU2
import Derived.Test.YtgobccnphhljcaaKU3
import Derived.Test.YtgobccnphhljcaaKU5
namespace Go.Proofs.Ytgobccnphhljcaa
set_option linter.unusedVariables false
set_option maxRecDepth 10000
set_option maxHeartbeats 2000000
theorem W14 {I : Mem} {G : List Asn} {p0 : List UInt8} {p1 : api_Packet} {p2 : Int} {p3 : Int} {p4 : Int} {p5 : Bool} {p6 : Bool} {r : Bool} (h : haulierlaw06_PacketUnpacks p0 p1 p2 p3 p4 p5 p6 = some r) {u0 : Value} (hp0 : IV I u0 p0) {u1_5 : Value} (hp1_5 : IV I u1_5 p1.Data) :
    CallsS Try.prog 14 #[u0, .agg #[(.int .i64 p1.Kind), (.int .i64 p1.Path), (.int .i64 p1.Number), (.int .i64 p1.Of), (.int .i64 p1.From), u1_5, (.bool p1.Fin), (.int .i64 p1.Seen), (.int .i64 p1.Limit)], .int .i64 p2, .int .i64 p3, .int .i64 p4, .bool p5, .bool p6] I (G) (fun v J G' => v = .bool r ∧ G = G') := by
  refine CallsS.enter Try.func14 rfl Try.ntmps14 rfl (fun w0 => ?_)
  have hI := Mem.le.refl I
  obtain ⟨a0, c0, rfl⟩ := hp0.hd
  obtain ⟨a1_5, c1_5, rfl⟩ := hp1_5.hd
  unfold haulierlaw06_PacketUnpacks at h
  refine WC.seq ?_
  refine WC.region ?_
  refine bx rfl rfl rfl (fun g1 => ?_)
  refine asg rfl rfl ?_
  refine WL.next ?_
  refine WC.seq ?_
  refine WC.seq ?_
  refine WC.region ?_
  refine mv rfl rfl ?_
  refine nt rfl rfl ?_
  refine WL.next ?_
  obtain ⟨j110, hj110, h⟩ := bnd h
  refine WC.joinQ (σ := (List UInt8) × (Option Addr) × Nat) (fun (x106, a107, c108) => [(0, (.slice a107 x106.length c108)), (5, (.bool p5))]) (fun (x106, a107, c108) => G) (fun (x106, a107, c108) J => x106 = j110 ∧ IV J (.slice a107 x106.length c108) x106) (fun kj110 => ?_) ?_
  · skip
    have lj110 := Mem.le.refl I
    refine WC.itebn rfl hj110 (fun k111 hj110 => ?_) (fun k111 hj110 => ?_)
    · skip
      refine WC.skip ?_
      refine WX.del 0 ?_
      exact (kj110 ⟨p0, _, _⟩ _ lj110 ⟨Option.some.inj hj110, hp0⟩).sub ⟨rfl, rfl, trivial⟩
    refine WC.seq ?_
    refine WC.sub (r := [(0, (.slice a0 p0.length c0)), (2, (.int .i64 p2)), (3, (.int .i64 p3)), (4, (.int .i64 p4)), (5, (.bool p5)), (8, (.pointer (some ⟨g1, 0, none⟩)))]) ?_ ⟨rfl, rfl, rfl, rfl, rfl, rfl, trivial⟩
    obtain ⟨x112, e113, hj110⟩ := bnd hj110
    obtain ⟨x117, e118, hj110⟩ := bnd hj110
    obtain ⟨⟨x125, x126⟩, e127, hj110⟩ := bnd hj110
    refine WC.drawn mo (nthL [[], [], [1], [0, 1, 2], [0, 1, 2, 3], [0, 1, 2, 3, 4], [0, 1, 2, 3, 4, 5], [0, 1, 2, 3, 4, 5], [0, 1, 2, 3, 4, 5, 6], [0, 1, 2, 3, 4, 5, 6, 7, 8]]) (nthL [[], [], [1], [0, 2], [3], [4], [5], [5], [6], [7]]) (nthK [.val (.agg #[(.int .i64 p1.Kind), (.int .i64 p1.Path), (.int .i64 p1.Number), (.int .i64 p1.Of), (.int .i64 p1.From), (.slice a1_5 p1.Data.length c1_5), (.bool p1.Fin), (.int .i64 p1.Seen), (.int .i64 p1.Limit)]), .val (.int .i64 p2), .val (.int .i64 x112), .of (fun v I => ∃ a3_0 c3_0, v = (.agg #[(.int .i64 x117.Kind), (.int .i64 x117.Path), (.int .i64 x117.Number), (.int .i64 x117.Of), (.int .i64 x117.From), (.slice a3_0 x117.Data.length c3_0), (.bool x117.Fin), (.int .i64 x117.Seen), (.int .i64 x117.Limit)]) ∧ IV I (.slice a3_0 x117.Data.length c3_0) x117.Data) (fun q ⟨a3_0, c3_0, e, h3_0⟩ => ⟨a3_0, c3_0, e, h3_0.up q⟩), .of (fun v I => ∃ a4_0 c4_0, v = (.tuple #[(.slice a4_0 x125.length c4_0), (.bool x126)])) (fun q ⟨a4_0, c4_0, e⟩ => ⟨a4_0, c4_0, e⟩), .of (fun v I => ∃ a5_0 c5_0, v = (.tuple #[(.slice a5_0 x125.length c5_0), (.bool x126)])) (fun q ⟨a5_0, c5_0, e⟩ => ⟨a5_0, c5_0, e⟩), .any, .val (.bool x126), .any, .val (.bool x126)]) [⟨none, none, [0], [], fun _ => bl g1 #[(.int .i64 p1.Kind), (.int .i64 p1.Path), (.int .i64 p1.Number), (.int .i64 p1.Of), (.int .i64 p1.From), (.slice a1_5 p1.Data.length c1_5), (.bool p1.Fin), (.int .i64 p1.Seen), (.int .i64 p1.Limit)] 41⟩, ⟨(some 4), (some 5), [], [4], fun l => OV 5 (vnth (vget l 0) 0) x125⟩, ⟨(some 5), (some 6), [], [5], fun l => OV 5 (vnth (vget l 0) 0) x125⟩, ⟨(some 6), (some 8), [], [6], fun l => OV 5 (vget l 0) x125⟩, ⟨(some 8), none, [], [8], fun l => OV 5 (vget l 0) x125⟩] (by kernel_rfl) (by kernel_rfl) (by kernel_rfl) (H := G) rfl ⟨?_, ?_, ?_, ?_, ?_, ?_, ?_, ?_, ?_, ?_, trivial⟩ ?_
    · intro Q ρ I1 H hI1 hk hpost
      have hc := Mem.le.refl I1
      refine lda 0 ya41 rfl rfl rfl rfl rfl ?_
      refine WL.nil ?_
      exact hpost _ _ hc rfl _ (fun _ hd => by obtain rfl := Option.some.inj hd; exact ⟨rfl, trivial⟩)
    · intro Q ρ I1 H hI1 hk hpost
      have hc := Mem.le.refl I1
      refine mv rfl rfl ?_
      refine WL.nil ?_
      exact hpost _ _ hc rfl _ (fun _ hd => by obtain rfl := Option.some.inj hd; exact ⟨rfl, trivial⟩)
    · intro Q ρ I1 H hI1 hk hpost
      obtain ⟨_, -⟩ := hk
      have hc := Mem.le.refl I1
      refine call cl19 rfl rfl (W19 e113) (fun _ J114 _ hJ115 q116 => ?_)
      have hc := hc.trans hJ115
      obtain ⟨rfl, rfl⟩ := q116
      refine WL.nil ?_
      exact hpost _ _ hc rfl _ (fun _ hd => by obtain rfl := Option.some.inj hd; exact ⟨rfl, trivial⟩)
    · intro Q ρ I1 H hI1 hk hpost
      obtain ⟨_, _, -⟩ := hk
      replace hp1_5 := hp1_5.up hI1
      have hc := Mem.le.refl I1
      refine call cl34 rfl rfl (W34 e118 hp1_5) (fun _ J119 _ hJ120 q121 => ?_)
      have hc := hc.trans hJ120
      replace hp1_5 := hp1_5.up hJ120
      obtain ⟨a122, c123, rfl, h124, rfl⟩ := q121
      refine WL.nil ?_
      exact hpost _ _ hc ⟨_, _, rfl, h124⟩ _ (fun _ hd => by obtain rfl := Option.some.inj hd; exact ⟨rfl, trivial⟩)
    · intro Q ρ I1 H hI1 hk hpost
      obtain ⟨k3, -⟩ := hk
      have hc := Mem.le.refl I1
      refine WL.sub (r := [(36, (ρ 3))]) ?_ ⟨rfl, trivial⟩
      obtain ⟨a3_0, c3_0, ex3, h3_0⟩ := k3
      try rw [ex3]
      refine call cl36 rfl rfl (W36 e127 h3_0) (fun _ J128 _ hJ129 q130 => ?_)
      have hc := hc.trans hJ129
      replace h3_0 := h3_0.up hJ129
      obtain ⟨a131, c132, rfl, rfl⟩ := q130
      refine WL.nil ?_
      exact hpost _ _ hc ⟨_, _, rfl⟩ _ (fun _ hd => by obtain rfl := Option.some.inj hd; exact ⟨rfl, trivial⟩)
    · intro Q ρ I1 H hI1 hk hpost
      obtain ⟨k4, -⟩ := hk
      have hc := Mem.le.refl I1
      refine WL.sub (r := [(37, (ρ 4))]) ?_ ⟨rfl, trivial⟩
      refine WL.conv (H := OV 5 (vnth (ρ 4) 0) x125 :: H) (fun _ h => h) ?_
      obtain ⟨a4_0, c4_0, ex4⟩ := k4
      try rw [ex4]
      refine mv rfl rfl ?_
      refine WL.nil ?_
      exact hpost _ _ hc ⟨_, _, rfl⟩ _ (fun _ hd => by obtain rfl := Option.some.inj hd; exact ⟨rfl, trivial⟩)
    · intro Q ρ I1 H hI1 hk hpost
      obtain ⟨k5, -⟩ := hk
      have hc := Mem.le.refl I1
      refine WL.sub (r := [(32, (ρ 5))]) ?_ ⟨rfl, trivial⟩
      refine WL.conv (H := OV 5 (vnth (ρ 5) 0) x125 :: H) (fun _ h => h) ?_
      obtain ⟨a5_0, c5_0, ex5⟩ := k5
      try rw [ex5]
      refine ex rfl rfl rfl ?_
      refine WL.nil ?_
      exact hpost _ _ hc trivial _ (fun _ hd => by obtain rfl := Option.some.inj hd; exact ⟨rfl, trivial⟩)
    · intro Q ρ I1 H hI1 hk hpost
      obtain ⟨k5, -⟩ := hk
      have hc := Mem.le.refl I1
      refine WL.sub (r := [(32, (ρ 5))]) ?_ ⟨rfl, trivial⟩
      obtain ⟨a5_0, c5_0, ex5⟩ := k5
      try rw [ex5]
      refine ex rfl rfl rfl ?_
      refine WL.nil ?_
      exact hpost _ _ hc rfl _ (fun _ hd => by obtain rfl := Option.some.inj hd; exact ⟨rfl, trivial⟩)
    · intro Q ρ I1 H hI1 hk hpost
      obtain ⟨_, -⟩ := hk
      have hc := Mem.le.refl I1
      refine asg rfl rfl ?_
      refine WL.nil ?_
      exact hpost _ _ hc trivial _ (fun _ hd => by obtain rfl := Option.some.inj hd; exact ⟨rfl, trivial⟩)
    · intro Q ρ I1 H hI1 hk hpost
      obtain ⟨_, -⟩ := hk
      have hc := Mem.le.refl I1
      refine asg rfl rfl ?_
      refine WL.nil ?_
      exact hpost _ _ hc rfl _ (fun _ hd => by obtain rfl := Option.some.inj hd; exact ⟨rfl, trivial⟩)
    rintro ρ J134 hJ135 -
    refine WX.sub (r := [(0, (.slice a0 p0.length c0)), (2, (.int .i64 p2)), (3, (.int .i64 p3)), (4, (.int .i64 p4)), (5, (.bool p5)), (15, (ρ 8))]) ?_ ⟨rfl, rfl, rfl, rfl, rfl, rfl, trivial⟩
    refine WX.is (H := bl g1 #[(.int .i64 p1.Kind), (.int .i64 p1.Path), (.int .i64 p1.Number), (.int .i64 p1.Of), (.int .i64 p1.From), (.slice a1_5 p1.Data.length c1_5), (.bool p1.Fin), (.int .i64 p1.Seen), (.int .i64 p1.Limit)] 41 :: OV 5 (ρ 8) x125 :: G) rfl ?_
    have hI := hI.trans hJ135
    have lj110 := lj110.trans hJ135
    replace hp0 := hp0.up hJ135; replace hp1_5 := hp1_5.up hJ135
    refine WX.front 1 ?_
    generalize ρ 8 = uv136 at *; refine WX.hd (fun a137 c138 e => ?_); subst e
    refine WX.then_ ?_
    refine WC.seq ?_
    refine WC.seq ?_
    refine WC.region ?_
    refine mv rfl rfl ?_
    refine mv rfl rfl ?_
    refine ln et22 rfl (OV.rd 0 rfl) rfl ?_
    refine mu rfl rfl rfl ?_
    refine ad rfl rfl rfl ?_
    obtain ⟨x139, e140, hj110⟩ := bnd hj110
    refine WL.re (congrArg (Value.int .i64) (Option.some.inj e140)) ?_
    obtain ⟨x141, e142, hj110⟩ := bnd hj110
    refine call cl19 rfl rfl (W19 e142) (fun _ J143 _ hJ144 q145 => ?_)
    have hI := hI.trans hJ144
    have lj110 := lj110.trans hJ144
    replace hp0 := hp0.up hJ144; replace hp1_5 := hp1_5.up hJ144
    obtain ⟨rfl, rfl⟩ := q145
    refine asg rfl rfl ?_
    refine WL.del 1 ?_
    refine WL.next ?_
    refine WC.seq ?_
    refine WC.region ?_
    refine mv rfl rfl ?_
    refine mv rfl rfl ?_
    refine ln et22 rfl (OV.rd 0 rfl) rfl ?_
    refine lt rfl rfl rfl ?_
    refine WL.next ?_
    obtain ⟨j154, hj154, hj110⟩ := bnd hj110
    refine WC.joinQ (σ := (List UInt8) × (Option Addr) × Nat) (fun (x151, a152, c153) => [(0, (.slice a0 p0.length c0)), (2, (.int .i64 p2)), (4, (.int .i64 p4)), (5, (.bool p5)), (15, (.slice a152 x151.length c153))]) (fun (x151, a152, c153) => OV 5 (.slice a152 x151.length c153) x151 :: G) (fun (x151, a152, c153) J => x151 = j154) (fun kj154 => ?_) ?_
    · skip
      have lj154 := Mem.le.refl J143
      refine WC.ite rfl hj154 (fun k155 hj154 => ?_) (fun k155 hj154 => ?_)
      · skip
        refine WC.region ?_
        refine mv rfl rfl ?_
        refine mv rfl rfl ?_
        obtain ⟨y156, e157, hj154⟩ := bnd hj154
        refine cto (kl := .i64) (kh := .i64) et22 rfl (.inl ⟨rfl, rfl, rfl⟩) (.inr ⟨_, rfl, rfl, rfl⟩) e157 rfl (fun a158 c159 => ?_)
        refine asg rfl rfl ?_
        refine WL.nil ?_
        exact (kj154 ⟨y156, _, _⟩ _ lj154 (Option.some.inj hj154)).sub ⟨rfl, rfl, rfl, rfl, rfl, trivial⟩
      refine WC.skip ?_
      exact (kj154 ⟨x125, _, _⟩ _ lj154 (Option.some.inj hj154)).sub ⟨rfl, rfl, rfl, rfl, rfl, trivial⟩
    rintro ⟨x151, a152, c153⟩ J160 hJ161 rfl
    have hI := hI.trans hJ161
    have lj110 := lj110.trans hJ161
    replace hp0 := hp0.up hJ161
    refine WX.then_ ?_
    refine WC.seq ?_
    refine WC.seq ?_
    refine WC.region ?_
    refine mv rfl rfl ?_
    refine mv rfl rfl ?_
    refine ln et22 rfl (OV.rd 0 rfl) rfl ?_
    refine mu rfl rfl rfl ?_
    refine ad rfl rfl rfl ?_
    obtain ⟨x162, e163, hj110⟩ := bnd hj110
    refine WL.re (congrArg (Value.int .i64) (Option.some.inj e163)) ?_
    obtain ⟨x164, e165, hj110⟩ := bnd hj110
    refine call cl19 rfl rfl (W19 e165) (fun _ J166 _ hJ167 q168 => ?_)
    have hI := hI.trans hJ167
    have lj110 := lj110.trans hJ167
    replace hp0 := hp0.up hJ167
    obtain ⟨rfl, rfl⟩ := q168
    refine asg rfl rfl ?_
    refine WL.next ?_
    refine WC.seq ?_
    refine WC.region ?_
    refine mv rfl rfl ?_
    refine mv rfl rfl ?_
    refine ln et22 rfl (OV.rd 0 rfl) rfl ?_
    refine mu rfl rfl rfl ?_
    refine lt rfl rfl rfl ?_
    refine WL.next ?_
    refine WC.ite rfl hj110 (fun k169 hj110 => ?_) (fun k169 hj110 => ?_)
    · skip
      refine WC.region ?_
      refine mv rfl rfl ?_
      refine mv rfl rfl ?_
      refine qu (by decide) rfl rfl rfl ?_
      obtain ⟨k170, hj110⟩ := chk hj110
      refine ixo 0 et22 rfl rfl rfl k170 rfl (fun uv171 h172 => ?_)
      obtain ⟨z175, e176, hj110⟩ := bnd hj110
      refine ldo (α := UInt8) 0 na5 rfl h172 rfl e176 rfl (fun uv173 h174 => ?_)
      obtain rfl := h174.u8
      refine mv rfl rfl ?_
      refine re (by decide) rfl rfl rfl ?_
      refine cv64 Try.underlying3 Try.underlying62 rfl rfl ?_
      refine slb (a := (1 : UInt8)) (Int.natCast_nonneg _) rfl rfl rfl rfl ?_
      refine xor8 (a := z175) (b := (sl8 (1 : UInt8) ((u64of ((x164).tmod 8)).toNat : Int))) rfl rfl rfl rfl rfl ?_
      obtain ⟨k177, hj110⟩ := chk hj110
      refine ixo 0 et22 rfl rfl rfl k177 rfl (fun uv178 h179 => ?_)
      obtain ⟨x180, e181, hj110⟩ := bnd hj110
      refine sto2 (α := UInt8) (z := (z175 ^^^ (sl8 (1 : UInt8) ((u64of ((x164).tmod 8)).toNat : Int)))) sz5 rfl rfl h179 (ilt k177) (Rv.of_u8 _ (z175 ^^^ (sl8 (1 : UInt8) ((u64of ((x164).tmod 8)).toNat : Int)))) (Option.some.inj e181) ?_
      refine WL.rb 15 rfl (u := (.slice a152 x180.length c153)) (by rw [← Option.some.inj e181, List.length_set]) ?_
      refine WL.rb 64 rfl (u := (.slice a152 x180.length c153)) (by rw [← Option.some.inj e181, List.length_set]) ?_
      refine WL.next ?_
      refine WC.region ?_
      refine mv rfl rfl ?_
      refine mv rfl rfl ?_
      refine mv rfl rfl ?_
      refine qu (by decide) rfl rfl rfl ?_
      obtain ⟨x182, e183, hj110⟩ := bnd hj110
      refine call cl19 rfl rfl (W19 e183) (fun _ J184 _ hJ185 q186 => ?_)
      have hI := hI.trans hJ185
      have lj110 := lj110.trans hJ185
      replace hp0 := hp0.up hJ185
      obtain ⟨rfl, rfl⟩ := q186
      refine qu (by decide) rfl rfl rfl ?_
      obtain ⟨x187, e188, hj110⟩ := bnd hj110
      refine call cl15 rfl rfl (W15 e188 hp0) (fun _ J189 _ hJ190 q191 => ?_)
      have hI := hI.trans hJ190
      have lj110 := lj110.trans hJ190
      replace hp0 := hp0.up hJ190
      obtain ⟨a192, c193, rfl, rfl⟩ := q191
      refine WL.front 1 ?_
      obtain ⟨k195, hj110⟩ := chk hj110
      refine ap et22 rfl rfl ((OV.rd 1 rfl)) k195 rfl (fun a196 c197 => ?_)
      refine asg rfl rfl ?_
      refine WL.del 1 ?_
      refine WL.nil ?_
      refine WX.freeze (fun J198 hJ199 h200 => ?_)
      have hI := hI.trans hJ199
      have lj110 := lj110.trans hJ199
      exact (kj110 ⟨(x180 ++ x187), _, _⟩ _ lj110 ⟨Option.some.inj hj110, h200⟩).sub ⟨rfl, rfl, trivial⟩
    refine WC.skip ?_
    refine WX.then_ ?_
    refine WC.region ?_
    refine mv rfl rfl ?_
    refine mv rfl rfl ?_
    refine mv rfl rfl ?_
    refine qu (by decide) rfl rfl rfl ?_
    obtain ⟨x201, e202, hj110⟩ := bnd hj110
    refine call cl19 rfl rfl (W19 e202) (fun _ J203 _ hJ204 q205 => ?_)
    have hI := hI.trans hJ204
    have lj110 := lj110.trans hJ204
    replace hp0 := hp0.up hJ204
    obtain ⟨rfl, rfl⟩ := q205
    refine qu (by decide) rfl rfl rfl ?_
    obtain ⟨x206, e207, hj110⟩ := bnd hj110
    refine call cl15 rfl rfl (W15 e207 hp0) (fun _ J208 _ hJ209 q210 => ?_)
    have hI := hI.trans hJ209
    have lj110 := lj110.trans hJ209
    replace hp0 := hp0.up hJ209
    obtain ⟨a211, c212, rfl, rfl⟩ := q210
    refine WL.front 1 ?_
    obtain ⟨k214, hj110⟩ := chk hj110
    refine ap et22 rfl rfl ((OV.rd 1 rfl)) k214 rfl (fun a215 c216 => ?_)
    refine asg rfl rfl ?_
    refine WL.del 1 ?_
    refine WL.nil ?_
    refine WX.freeze (fun J217 hJ218 h219 => ?_)
    have hI := hI.trans hJ218
    have lj110 := lj110.trans hJ218
    exact (kj110 ⟨(x151 ++ x206), _, _⟩ _ lj110 ⟨Option.some.inj hj110, h219⟩).sub ⟨rfl, rfl, trivial⟩
  rintro ⟨x106, a107, c108⟩ J220 hJ221 ⟨rfl, h109⟩
  have hI := hI.trans hJ221
  refine WX.then_ ?_
  refine WC.seq ?_
  refine WC.region ?_
  refine mv rfl rfl ?_
  obtain ⟨s222, e223, h⟩ := bnd h
  refine call cl46 rfl rfl (W46 e223 h109) (fun _ J224 _ hJ225 q226 => ?_)
  have hI := hI.trans hJ225
  replace h109 := h109.up hJ225
  obtain ⟨g227, rfl, rfl⟩ := q226
  refine mv rfl rfl ?_
  obtain ⟨x229, e230, h⟩ := bnd h
  refine call cl43 rfl rfl (W43 e230 h109) (fun _ J231 _ hJ232 q233 => ?_)
  have hI := hI.trans hJ232
  replace h109 := h109.up hJ232
  obtain ⟨a234, c235, rfl, rfl⟩ := q233
  refine bu bt78 rfl rfl rfl ?_
  refine bx rfl rfl rfl (fun g237 => ?_)
  refine asg rfl rfl ?_
  refine asg rfl rfl ?_
  refine WL.next ?_
  refine WC.seq ?_
  refine WC.seq ?_
  refine WC.region ?_
  refine mv rfl rfl ?_
  refine pe pt66 rfl rfl rfl ?_
  refine WL.next ?_
  refine WC.cond rfl (fun k => by cases k) (fun _ => ?_)
  refine WC.skip ?_
  refine WX.then_ ?_
  refine WC.seq ?_
  refine WC.region ?_
  refine mv rfl rfl ?_
  refine WL.front 2 ?_
  obtain ⟨⟨x239, x240, s241⟩, e242, h⟩ := bnd h
  refine call cl47 rfl rfl (W47 e242) (fun _ J243 _ hJ244 q245 => ?_)
  have hI := hI.trans hJ244
  replace h109 := h109.up hJ244
  obtain ⟨a246, c247, rfl, h248, rfl⟩ := q245
  refine mv rfl rfl ?_
  refine ex rfl rfl rfl ?_
  refine ex rfl rfl rfl ?_
  refine al Try.zeroValue41 rfl (fun g249 => ?_)
  refine sta (C' := #[(.int .i64 x239.Kind), (.int .i64 x239.Path), (.int .i64 x239.Number), (.int .i64 x239.Of), (.int .i64 x239.From), (.slice a246 x239.Data.length c247), (.bool x239.Fin), (.int .i64 x239.Seen), (.int .i64 x239.Limit)]) sz41 rfl rfl rfl rfl rfl rfl ?_
  refine asg rfl rfl ?_
  refine WL.next ?_
  refine WC.seq ?_
  refine WC.region ?_
  refine mv rfl rfl ?_
  refine WL.front 3 ?_
  refine WL.freeze (fun J251 hJ252 h253 => ?_)
  have hI := hI.trans hJ252
  replace h109 := h109.up hJ252; replace h248 := h248.up hJ252
  refine WL.front 2 ?_
  refine WL.shut_haulierref01_Reader (⟨x229, 0, false⟩ : haulierref01_Reader) h253 ?_
  obtain ⟨⟨x254, x255, s256⟩, e257, h⟩ := bnd h
  refine call cl51 rfl rfl (W51 e257) (fun _ J258 _ hJ259 q260 => ?_)
  have hI := hI.trans hJ259
  replace h109 := h109.up hJ259; replace h248 := h248.up hJ259
  obtain ⟨a261, c262, rfl, h263, rfl⟩ := q260
  refine mv rfl rfl ?_
  refine ex rfl rfl rfl ?_
  refine ex rfl rfl rfl ?_
  refine al Try.zeroValue41 rfl (fun g264 => ?_)
  refine sta (C' := #[(.int .i64 x254.Kind), (.int .i64 x254.Path), (.int .i64 x254.Number), (.int .i64 x254.Of), (.int .i64 x254.From), (.slice a261 x254.Data.length c262), (.bool x254.Fin), (.int .i64 x254.Seen), (.int .i64 x254.Limit)]) sz41 rfl rfl rfl rfl rfl rfl ?_
  refine asg rfl rfl ?_
  refine WL.next ?_
  refine WC.seq ?_
  refine WC.seq ?_
  obtain ⟨j317, hj317, h⟩ := bnd h
  refine WC.joinQ (σ := Bool) (fun x316 => [(0, (.slice a107 x106.length c108)), (5, (.bool p5)), (121, (.bool x316))]) (fun x316 => G) (fun x316 J => x316 = j317) (fun kj317 => ?_) ?_
  · skip
    have lj317 := Mem.le.refl J258
    refine WC.front 1 ?_
    refine WC.open_haulierref01_Reader (fun a318 c319 h320 => ?_)
    refine WC.sub (r := [(0, (.slice a107 x106.length c108)), (5, (.bool p5)), (19, (.pointer (some ⟨g227, 0, none⟩))), (20, (.pointer (some ⟨g237, 0, none⟩))), (21, (.pointer (some ⟨g249, 0, none⟩))), (22, (.bool x240)), (23, (.pointer (some ⟨g264, 0, none⟩))), (24, (.bool x255))]) ?_ ⟨rfl, rfl, rfl, rfl, rfl, rfl, rfl, rfl, trivial⟩
    rcases spl hj317 with ⟨k321, hj317⟩ | ⟨k321, hj317⟩
    · skip
      obtain ⟨x322, e323, hj317⟩ := bnd hj317
      rcases spl hj317 with ⟨k327, hj317⟩ | ⟨k327, hj317⟩
      · skip
        rcases spl hj317 with ⟨k328, hj317⟩ | ⟨k328, hj317⟩
        · skip
          obtain ⟨⟨x329, s330⟩, e331, hj317⟩ := bnd hj317
          refine WC.front 3 ?_
          refine WC.front 2 ?_
          refine WC.front 3 ?_
          refine WC.drawn mo (nthL [[], [], [0, 1], [0, 1, 2], [0, 1, 2, 3], [0, 1, 2, 3], [0, 1, 2, 3, 4, 5], [0, 1, 2, 3, 4, 5, 6], [0, 1, 2, 3, 4, 5, 6, 7], [0, 1, 2, 3, 4, 5, 6, 7, 8], [0, 1, 2, 3, 4, 5, 6, 7, 8, 9], [0, 1, 2, 3, 4, 5, 6, 7, 8, 9, 10], [0, 1, 2, 3, 4, 5, 6, 7, 8, 9, 10, 11], [0, 1, 2, 3, 4, 5, 6, 7, 8, 9, 10, 11, 12], [0, 1, 2, 3, 4, 5, 6, 7, 8, 9, 10, 11], [0, 1, 2, 3, 4, 5, 6, 7, 8, 9, 10, 11, 14], [0, 1, 2, 3, 4, 5, 6, 7, 8, 9, 10, 11, 14, 15], [0, 1, 2, 3, 4, 5, 6, 7, 8, 9, 10, 11, 14, 15, 16], [0, 1, 2, 3, 4, 5, 6, 7, 8, 9, 10, 11, 12, 13, 14, 15, 16, 17], [0, 1, 2, 3, 4, 5, 6, 7, 8, 9, 10, 11, 12, 13, 14, 15, 16, 17, 18], [0, 1, 2, 3, 4, 5, 6, 7, 8, 9, 10, 11, 12, 13, 14, 15, 16, 17, 18, 19]]) (nthL [[], [], [0, 1], [2], [3], [3], [3, 4, 5], [3, 6], [3, 7], [8], [9], [9, 10], [11], [11, 12], [11], [11, 14], [11, 15], [11, 16], [11, 13, 17], [9, 11, 18], [9, 19]]) (nthK [.val (.bool x240), .val (.bool x255), .val (.bool (!(x240 == x255))), .val (.bool false), .val (.agg #[(.int .i64 x239.Kind), (.int .i64 x239.Path), (.int .i64 x239.Number), (.int .i64 x239.Of), (.int .i64 x239.From), (.slice a246 x239.Data.length c247), (.bool x239.Fin), (.int .i64 x239.Seen), (.int .i64 x239.Limit)]), .val (.agg #[(.int .i64 x254.Kind), (.int .i64 x254.Path), (.int .i64 x254.Number), (.int .i64 x254.Of), (.int .i64 x254.From), (.slice a261 x254.Data.length c262), (.bool x254.Fin), (.int .i64 x254.Seen), (.int .i64 x254.Limit)]), .val (.bool x322), .val (.bool (!x322)), .val (.bool (!x322)), .val (.bool false), .val (.bool x240), .val (.bool true), .val (.pointer (some ⟨g227, 0, none⟩)), .val (.int .i64 x329), .val (.pointer (some ⟨g237, 0, none⟩)), .val (.pointer (some ⟨g237, 0, none⟩)), .val (.pointer (some ⟨g237, 1, none⟩)), .val (.int .i64 s256.At), .val (.bool (decide (x329 ≠ s256.At))), .val (.bool (decide (x329 ≠ s256.At))), .val (.bool (decide (x329 ≠ s256.At)))]) [⟨none, none, [4], [], fun _ => bl g249 #[(.int .i64 x239.Kind), (.int .i64 x239.Path), (.int .i64 x239.Number), (.int .i64 x239.Of), (.int .i64 x239.From), (.slice a246 x239.Data.length c247), (.bool x239.Fin), (.int .i64 x239.Seen), (.int .i64 x239.Limit)] 41⟩, ⟨none, none, [5], [], fun _ => bl g264 #[(.int .i64 x254.Kind), (.int .i64 x254.Path), (.int .i64 x254.Number), (.int .i64 x254.Of), (.int .i64 x254.From), (.slice a261 x254.Data.length c262), (.bool x254.Fin), (.int .i64 x254.Seen), (.int .i64 x254.Limit)] 41⟩, ⟨none, (some 13), [], [], fun _ => Ob_span_Reader g227 s241⟩, ⟨(some 13), none, [], [], fun _ => Ob_span_Reader g227 s330⟩, ⟨none, none, [17], [], fun _ => bl g237 #[(.slice a318 s256.B.length c319), (.int .i64 s256.At), (.bool s256.Bad)] 78⟩] (by kernel_rfl) (by kernel_rfl) (by kernel_rfl) (H := G) rfl ⟨?_, ?_, ?_, ?_, ?_, ?_, ?_, ?_, ?_, ?_, ?_, ?_, ?_, ?_, ?_, ?_, ?_, ?_, ?_, ?_, ?_, trivial⟩ ?_
          · intro Q ρ I1 H hI1 hk hpost
            have hc := Mem.le.refl I1
            refine mv rfl rfl ?_
            refine WL.nil ?_
            exact hpost _ _ hc rfl _ (fun _ hd => by obtain rfl := Option.some.inj hd; exact ⟨rfl, trivial⟩)
          · intro Q ρ I1 H hI1 hk hpost
            have hc := Mem.le.refl I1
            refine mv rfl rfl ?_
            refine WL.nil ?_
            exact hpost _ _ hc rfl _ (fun _ hd => by obtain rfl := Option.some.inj hd; exact ⟨rfl, trivial⟩)
          · intro Q ρ I1 H hI1 hk hpost
            obtain ⟨_, _, -⟩ := hk
            have hc := Mem.le.refl I1
            refine bn Try.underlying4 rfl rfl rfl ?_
            refine WL.nil ?_
            exact hpost _ _ hc rfl _ (fun _ hd => by obtain rfl := Option.some.inj hd; exact ⟨rfl, trivial⟩)
          · intro Q ρ I1 H hI1 hk hpost
            obtain ⟨_, -⟩ := hk
            have hc := Mem.le.refl I1
            refine mv rfl rfl ?_
            refine WL.nil ?_
            exact hpost _ _ hc (bt1n k321) _ (fun _ hd => by obtain rfl := Option.some.inj hd; exact ⟨rfl, trivial⟩)
          · intro Q ρ I1 H hI1 hk hpost
            obtain ⟨_, -⟩ := hk
            have hc := Mem.le.refl I1
            refine WL.on rfl rfl ?_
            refine lda 0 ya41 rfl rfl rfl rfl rfl ?_
            refine WL.nil ?_
            exact hpost _ _ hc rfl _ (fun _ hd => by obtain rfl := Option.some.inj hd; exact ⟨rfl, trivial⟩)
          · intro Q ρ I1 H hI1 hk hpost
            obtain ⟨_, -⟩ := hk
            have hc := Mem.le.refl I1
            refine WL.on rfl rfl ?_
            refine lda 0 ya41 rfl rfl rfl rfl rfl ?_
            refine WL.nil ?_
            exact hpost _ _ hc rfl _ (fun _ hd => by obtain rfl := Option.some.inj hd; exact ⟨rfl, trivial⟩)
          · intro Q ρ I1 H hI1 hk hpost
            obtain ⟨_, _, _, -⟩ := hk
            replace h248 := h248.up hI1; replace h263 := h263.up hI1
            have hc := Mem.le.refl I1
            refine WL.on rfl rfl ?_
            refine call cl38 rfl rfl (W38 e323 h248 h263) (fun _ J324 _ hJ325 q326 => ?_)
            have hc := hc.trans hJ325
            replace h248 := h248.up hJ325; replace h263 := h263.up hJ325
            obtain ⟨rfl, rfl⟩ := q326
            refine WL.nil ?_
            exact hpost _ _ hc rfl _ (fun _ hd => by obtain rfl := Option.some.inj hd; exact ⟨rfl, trivial⟩)
          · intro Q ρ I1 H hI1 hk hpost
            obtain ⟨_, _, -⟩ := hk
            have hc := Mem.le.refl I1
            refine WL.on rfl rfl ?_
            refine nt rfl rfl ?_
            refine WL.nil ?_
            exact hpost _ _ hc rfl _ (fun _ hd => by obtain rfl := Option.some.inj hd; exact ⟨rfl, trivial⟩)
          · intro Q ρ I1 H hI1 hk hpost
            obtain ⟨_, _, -⟩ := hk
            have hc := Mem.le.refl I1
            refine pkF rfl rfl rfl ?_
            refine WL.nil ?_
            exact hpost _ _ hc rfl _ (fun _ hd => by obtain rfl := Option.some.inj hd; exact ⟨rfl, trivial⟩)
          · intro Q ρ I1 H hI1 hk hpost
            obtain ⟨_, -⟩ := hk
            have hc := Mem.le.refl I1
            refine mv rfl rfl ?_
            refine WL.nil ?_
            exact hpost _ _ hc (bt1n k327) _ (fun _ hd => by obtain rfl := Option.some.inj hd; exact ⟨rfl, trivial⟩)
          · intro Q ρ I1 H hI1 hk hpost
            obtain ⟨_, -⟩ := hk
            have hc := Mem.le.refl I1
            refine WL.on rfl rfl ?_
            refine mv rfl rfl ?_
            refine WL.nil ?_
            exact hpost _ _ hc rfl _ (fun _ hd => by obtain rfl := Option.some.inj hd; exact ⟨rfl, trivial⟩)
          · intro Q ρ I1 H hI1 hk hpost
            obtain ⟨_, _, -⟩ := hk
            have hc := Mem.le.refl I1
            refine WL.on rfl rfl ?_
            refine mv rfl rfl ?_
            refine WL.nil ?_
            exact hpost _ _ hc (bt1 k328) _ (fun _ hd => by obtain rfl := Option.some.inj hd; exact ⟨rfl, trivial⟩)
          · intro Q ρ I1 H hI1 hk hpost
            obtain ⟨_, -⟩ := hk
            have hc := Mem.le.refl I1
            refine WL.on rfl rfl ?_
            refine mv rfl rfl ?_
            refine WL.nil ?_
            exact hpost _ _ hc rfl _ (fun _ hd => by obtain rfl := Option.some.inj hd; exact ⟨rfl, trivial⟩)
          · intro Q ρ I1 H hI1 hk hpost
            obtain ⟨_, _, -⟩ := hk
            have hc := Mem.le.refl I1
            refine WL.on rfl rfl ?_
            refine call cl52 rfl rfl (W52 e331) (fun _ J332 _ hJ333 q334 => ?_)
            have hc := hc.trans hJ333
            obtain ⟨rfl, rfl⟩ := q334
            refine WL.nil ?_
            exact hpost _ _ hc rfl _ (fun _ hd => by obtain rfl := Option.some.inj hd; exact ⟨rfl, trivial⟩)
          · intro Q ρ I1 H hI1 hk hpost
            obtain ⟨_, -⟩ := hk
            have hc := Mem.le.refl I1
            refine WL.on rfl rfl ?_
            refine mv rfl rfl ?_
            refine WL.nil ?_
            exact hpost _ _ hc rfl _ (fun _ hd => by obtain rfl := Option.some.inj hd; exact ⟨rfl, trivial⟩)
          · intro Q ρ I1 H hI1 hk hpost
            obtain ⟨_, _, -⟩ := hk
            have hc := Mem.le.refl I1
            refine WL.on rfl rfl ?_
            refine nc rfl rfl ?_
            refine WL.nil ?_
            exact hpost _ _ hc rfl _ (fun _ hd => by obtain rfl := Option.some.inj hd; exact ⟨rfl, trivial⟩)
          · intro Q ρ I1 H hI1 hk hpost
            obtain ⟨_, _, -⟩ := hk
            have hc := Mem.le.refl I1
            refine WL.on rfl rfl ?_
            refine fa fl78_1 rfl rfl ?_
            refine WL.nil ?_
            exact hpost _ _ hc rfl _ (fun _ hd => by obtain rfl := Option.some.inj hd; exact ⟨rfl, trivial⟩)
          · intro Q ρ I1 H hI1 hk hpost
            obtain ⟨_, _, -⟩ := hk
            have hc := Mem.le.refl I1
            refine WL.on rfl rfl ?_
            refine ld 0 na3 rfl rfl rfl rfl ?_
            refine WL.nil ?_
            exact hpost _ _ hc rfl _ (fun _ hd => by obtain rfl := Option.some.inj hd; exact ⟨rfl, trivial⟩)
          · intro Q ρ I1 H hI1 hk hpost
            obtain ⟨_, _, _, -⟩ := hk
            have hc := Mem.le.refl I1
            refine WL.on rfl rfl ?_
            refine ne rfl rfl rfl ?_
            refine WL.nil ?_
            exact hpost _ _ hc rfl _ (fun _ hd => by obtain rfl := Option.some.inj hd; exact ⟨rfl, trivial⟩)
          · intro Q ρ I1 H hI1 hk hpost
            obtain ⟨_, _, _, -⟩ := hk
            have hc := Mem.le.refl I1
            refine WL.on rfl rfl ?_
            refine pkT rfl rfl rfl ?_
            refine WL.nil ?_
            exact hpost _ _ hc rfl _ (fun _ hd => by obtain rfl := Option.some.inj hd; exact ⟨rfl, trivial⟩)
          · intro Q ρ I1 H hI1 hk hpost
            obtain ⟨_, _, -⟩ := hk
            have hc := Mem.le.refl I1
            refine pkF rfl rfl rfl ?_
            refine WL.nil ?_
            exact hpost _ _ hc rfl _ (fun _ hd => by obtain rfl := Option.some.inj hd; exact ⟨rfl, trivial⟩)
          rintro ρ J335 hJ336 -
          refine WX.sub (r := [(0, (.slice a107 x106.length c108)), (5, (.bool p5)), (121, (.bool (decide (x329 ≠ s256.At))))]) ?_ ⟨rfl, rfl, rfl, trivial⟩
          refine WX.is (H := bl g249 #[(.int .i64 x239.Kind), (.int .i64 x239.Path), (.int .i64 x239.Number), (.int .i64 x239.Of), (.int .i64 x239.From), (.slice a246 x239.Data.length c247), (.bool x239.Fin), (.int .i64 x239.Seen), (.int .i64 x239.Limit)] 41 :: bl g264 #[(.int .i64 x254.Kind), (.int .i64 x254.Path), (.int .i64 x254.Number), (.int .i64 x254.Of), (.int .i64 x254.From), (.slice a261 x254.Data.length c262), (.bool x254.Fin), (.int .i64 x254.Seen), (.int .i64 x254.Limit)] 41 :: Ob_span_Reader g227 s330 :: bl g237 #[(.slice a318 s256.B.length c319), (.int .i64 s256.At), (.bool s256.Bad)] 78 :: G) rfl ?_
          have hI := hI.trans hJ336
          have lj317 := lj317.trans hJ336
          replace h109 := h109.up hJ336; replace h248 := h248.up hJ336; replace h263 := h263.up hJ336; replace h320 := h320.up hJ336
          refine WX.del 0 ?_
          refine WX.del 0 ?_
          refine WX.del 0 ?_
          refine WX.del 0 ?_
          exact (kj317 (decide (x329 ≠ s256.At)) _ lj317 (Option.some.inj hj317)).sub ⟨rfl, rfl, rfl, trivial⟩
        refine WC.front 1 ?_
        refine WC.front 2 ?_
        refine WC.drawn mo (nthL [[], [], [0, 1], [0, 1, 2], [0, 1, 2, 3], [0, 1, 2, 3], [0, 1, 2, 3, 4, 5], [0, 1, 2, 3, 4, 5, 6], [0, 1, 2, 3, 4, 5, 6, 7], [0, 1, 2, 3, 4, 5, 6, 7, 8], [0, 1, 2, 3, 4, 5, 6, 7, 8, 9], [0, 1, 2, 3, 4, 5, 6, 7, 8, 9, 10], [0, 1, 2, 3, 4, 5, 6, 7, 8, 9, 10, 11], [0, 1, 2, 3, 4, 5, 6, 7, 8, 9, 10, 11, 12], [0, 1, 2, 3, 4, 5, 6, 7, 8, 9, 10, 11], [0, 1, 2, 3, 4, 5, 6, 7, 8, 9, 10, 11, 14], [0, 1, 2, 3, 4, 5, 6, 7, 8, 9, 10, 11, 14, 15], [0, 1, 2, 3, 4, 5, 6, 7, 8, 9, 10, 11, 14, 15, 16], [0, 1, 2, 3, 4, 5, 6, 7, 8, 9, 10, 11, 12, 13, 14, 15, 16, 17], [0, 1, 2, 3, 4, 5, 6, 7, 8, 9, 10, 11, 12, 13, 14, 15, 16, 17, 18], [0, 1, 2, 3, 4, 5, 6, 7, 8, 9, 10, 11, 12, 13, 14, 15, 16, 17, 18, 19]]) (nthL [[], [], [0, 1], [2], [3], [3], [3, 4, 5], [3, 6], [3, 7], [8], [9], [9, 10], [11], [11], [11], [11], [11], [11], [11], [9, 11, 18], [9, 19]]) (nthK [.val (.bool x240), .val (.bool x255), .val (.bool (!(x240 == x255))), .val (.bool false), .val (.agg #[(.int .i64 x239.Kind), (.int .i64 x239.Path), (.int .i64 x239.Number), (.int .i64 x239.Of), (.int .i64 x239.From), (.slice a246 x239.Data.length c247), (.bool x239.Fin), (.int .i64 x239.Seen), (.int .i64 x239.Limit)]), .val (.agg #[(.int .i64 x254.Kind), (.int .i64 x254.Path), (.int .i64 x254.Number), (.int .i64 x254.Of), (.int .i64 x254.From), (.slice a261 x254.Data.length c262), (.bool x254.Fin), (.int .i64 x254.Seen), (.int .i64 x254.Limit)]), .val (.bool x322), .val (.bool (!x322)), .val (.bool (!x322)), .val (.bool false), .val (.bool x240), .val (.bool false), .val undef, .val undef, .val undef, .val undef, .val undef, .val undef, .val undef, .val (.bool false), .val (.bool false)]) [⟨none, none, [4], [], fun _ => bl g249 #[(.int .i64 x239.Kind), (.int .i64 x239.Path), (.int .i64 x239.Number), (.int .i64 x239.Of), (.int .i64 x239.From), (.slice a246 x239.Data.length c247), (.bool x239.Fin), (.int .i64 x239.Seen), (.int .i64 x239.Limit)] 41⟩, ⟨none, none, [5], [], fun _ => bl g264 #[(.int .i64 x254.Kind), (.int .i64 x254.Path), (.int .i64 x254.Number), (.int .i64 x254.Of), (.int .i64 x254.From), (.slice a261 x254.Data.length c262), (.bool x254.Fin), (.int .i64 x254.Seen), (.int .i64 x254.Limit)] 41⟩] (by kernel_rfl) (by kernel_rfl) (by kernel_rfl) (H := bl g237 #[(.slice a318 s256.B.length c319), (.int .i64 s256.At), (.bool s256.Bad)] 78 :: Ob_span_Reader g227 s241 :: G) rfl ⟨?_, ?_, ?_, ?_, ?_, ?_, ?_, ?_, ?_, ?_, ?_, ?_, ?_, ?_, ?_, ?_, ?_, ?_, ?_, ?_, ?_, trivial⟩ ?_
        · intro Q ρ I1 H hI1 hk hpost
          have hc := Mem.le.refl I1
          refine mv rfl rfl ?_
          refine WL.nil ?_
          exact hpost _ _ hc rfl _ (fun _ hd => by obtain rfl := Option.some.inj hd; exact ⟨rfl, trivial⟩)
        · intro Q ρ I1 H hI1 hk hpost
          have hc := Mem.le.refl I1
          refine mv rfl rfl ?_
          refine WL.nil ?_
          exact hpost _ _ hc rfl _ (fun _ hd => by obtain rfl := Option.some.inj hd; exact ⟨rfl, trivial⟩)
        · intro Q ρ I1 H hI1 hk hpost
          obtain ⟨_, _, -⟩ := hk
          have hc := Mem.le.refl I1
          refine bn Try.underlying4 rfl rfl rfl ?_
          refine WL.nil ?_
          exact hpost _ _ hc rfl _ (fun _ hd => by obtain rfl := Option.some.inj hd; exact ⟨rfl, trivial⟩)
        · intro Q ρ I1 H hI1 hk hpost
          obtain ⟨_, -⟩ := hk
          have hc := Mem.le.refl I1
          refine mv rfl rfl ?_
          refine WL.nil ?_
          exact hpost _ _ hc (bt1n k321) _ (fun _ hd => by obtain rfl := Option.some.inj hd; exact ⟨rfl, trivial⟩)
        · intro Q ρ I1 H hI1 hk hpost
          obtain ⟨_, -⟩ := hk
          have hc := Mem.le.refl I1
          refine WL.on rfl rfl ?_
          refine lda 0 ya41 rfl rfl rfl rfl rfl ?_
          refine WL.nil ?_
          exact hpost _ _ hc rfl _ (fun _ hd => by obtain rfl := Option.some.inj hd; exact ⟨rfl, trivial⟩)
        · intro Q ρ I1 H hI1 hk hpost
          obtain ⟨_, -⟩ := hk
          have hc := Mem.le.refl I1
          refine WL.on rfl rfl ?_
          refine lda 0 ya41 rfl rfl rfl rfl rfl ?_
          refine WL.nil ?_
          exact hpost _ _ hc rfl _ (fun _ hd => by obtain rfl := Option.some.inj hd; exact ⟨rfl, trivial⟩)
        · intro Q ρ I1 H hI1 hk hpost
          obtain ⟨_, _, _, -⟩ := hk
          replace h248 := h248.up hI1; replace h263 := h263.up hI1
          have hc := Mem.le.refl I1
          refine WL.on rfl rfl ?_
          refine call cl38 rfl rfl (W38 e323 h248 h263) (fun _ J324 _ hJ325 q326 => ?_)
          have hc := hc.trans hJ325
          replace h248 := h248.up hJ325; replace h263 := h263.up hJ325
          obtain ⟨rfl, rfl⟩ := q326
          refine WL.nil ?_
          exact hpost _ _ hc rfl _ (fun _ hd => by obtain rfl := Option.some.inj hd; exact ⟨rfl, trivial⟩)
        · intro Q ρ I1 H hI1 hk hpost
          obtain ⟨_, _, -⟩ := hk
          have hc := Mem.le.refl I1
          refine WL.on rfl rfl ?_
          refine nt rfl rfl ?_
          refine WL.nil ?_
          exact hpost _ _ hc rfl _ (fun _ hd => by obtain rfl := Option.some.inj hd; exact ⟨rfl, trivial⟩)
        · intro Q ρ I1 H hI1 hk hpost
          obtain ⟨_, _, -⟩ := hk
          have hc := Mem.le.refl I1
          refine pkF rfl rfl rfl ?_
          refine WL.nil ?_
          exact hpost _ _ hc rfl _ (fun _ hd => by obtain rfl := Option.some.inj hd; exact ⟨rfl, trivial⟩)
        · intro Q ρ I1 H hI1 hk hpost
          obtain ⟨_, -⟩ := hk
          have hc := Mem.le.refl I1
          refine mv rfl rfl ?_
          refine WL.nil ?_
          exact hpost _ _ hc (bt1n k327) _ (fun _ hd => by obtain rfl := Option.some.inj hd; exact ⟨rfl, trivial⟩)
        · intro Q ρ I1 H hI1 hk hpost
          obtain ⟨_, -⟩ := hk
          have hc := Mem.le.refl I1
          refine WL.on rfl rfl ?_
          refine mv rfl rfl ?_
          refine WL.nil ?_
          exact hpost _ _ hc rfl _ (fun _ hd => by obtain rfl := Option.some.inj hd; exact ⟨rfl, trivial⟩)
        · intro Q ρ I1 H hI1 hk hpost
          obtain ⟨_, _, -⟩ := hk
          have hc := Mem.le.refl I1
          refine WL.on rfl rfl ?_
          refine mv rfl rfl ?_
          refine WL.nil ?_
          exact hpost _ _ hc (bf1 k328) _ (fun _ hd => by obtain rfl := Option.some.inj hd; exact ⟨rfl, trivial⟩)
        · intro Q ρ I1 H hI1 hk hpost
          obtain ⟨_, -⟩ := hk
          have hc := Mem.le.refl I1
          refine WL.no rfl rfl rfl rfl ?_
          refine WL.nil ?_
          exact hpost _ _ hc rfl _ (fun _ hd => by obtain rfl := Option.some.inj hd; exact ⟨rfl, trivial⟩)
        · intro Q ρ I1 H hI1 hk hpost
          obtain ⟨_, -⟩ := hk
          have hc := Mem.le.refl I1
          refine WL.no rfl rfl rfl rfl ?_
          refine WL.nil ?_
          exact hpost _ _ hc rfl _ (fun _ hd => by obtain rfl := Option.some.inj hd; exact ⟨rfl, trivial⟩)
        · intro Q ρ I1 H hI1 hk hpost
          obtain ⟨_, -⟩ := hk
          have hc := Mem.le.refl I1
          refine WL.no rfl rfl rfl rfl ?_
          refine WL.nil ?_
          exact hpost _ _ hc rfl _ (fun _ hd => by obtain rfl := Option.some.inj hd; exact ⟨rfl, trivial⟩)
        · intro Q ρ I1 H hI1 hk hpost
          obtain ⟨_, -⟩ := hk
          have hc := Mem.le.refl I1
          refine WL.no rfl rfl rfl rfl ?_
          refine WL.nil ?_
          exact hpost _ _ hc rfl _ (fun _ hd => by obtain rfl := Option.some.inj hd; exact ⟨rfl, trivial⟩)
        · intro Q ρ I1 H hI1 hk hpost
          obtain ⟨_, -⟩ := hk
          have hc := Mem.le.refl I1
          refine WL.no rfl rfl rfl rfl ?_
          refine WL.nil ?_
          exact hpost _ _ hc rfl _ (fun _ hd => by obtain rfl := Option.some.inj hd; exact ⟨rfl, trivial⟩)
        · intro Q ρ I1 H hI1 hk hpost
          obtain ⟨_, -⟩ := hk
          have hc := Mem.le.refl I1
          refine WL.no rfl rfl rfl rfl ?_
          refine WL.nil ?_
          exact hpost _ _ hc rfl _ (fun _ hd => by obtain rfl := Option.some.inj hd; exact ⟨rfl, trivial⟩)
        · intro Q ρ I1 H hI1 hk hpost
          obtain ⟨_, -⟩ := hk
          have hc := Mem.le.refl I1
          refine WL.no rfl rfl rfl rfl ?_
          refine WL.nil ?_
          exact hpost _ _ hc rfl _ (fun _ hd => by obtain rfl := Option.some.inj hd; exact ⟨rfl, trivial⟩)
        · intro Q ρ I1 H hI1 hk hpost
          obtain ⟨_, _, _, -⟩ := hk
          have hc := Mem.le.refl I1
          refine WL.on rfl rfl ?_
          refine pkF rfl rfl rfl ?_
          refine WL.nil ?_
          exact hpost _ _ hc rfl _ (fun _ hd => by obtain rfl := Option.some.inj hd; exact ⟨rfl, trivial⟩)
        · intro Q ρ I1 H hI1 hk hpost
          obtain ⟨_, _, -⟩ := hk
          have hc := Mem.le.refl I1
          refine pkF rfl rfl rfl ?_
          refine WL.nil ?_
          exact hpost _ _ hc rfl _ (fun _ hd => by obtain rfl := Option.some.inj hd; exact ⟨rfl, trivial⟩)
        rintro ρ J337 hJ338 -
        refine WX.sub (r := [(0, (.slice a107 x106.length c108)), (5, (.bool p5)), (121, (.bool false))]) ?_ ⟨rfl, rfl, rfl, trivial⟩
        refine WX.is (H := bl g249 #[(.int .i64 x239.Kind), (.int .i64 x239.Path), (.int .i64 x239.Number), (.int .i64 x239.Of), (.int .i64 x239.From), (.slice a246 x239.Data.length c247), (.bool x239.Fin), (.int .i64 x239.Seen), (.int .i64 x239.Limit)] 41 :: bl g264 #[(.int .i64 x254.Kind), (.int .i64 x254.Path), (.int .i64 x254.Number), (.int .i64 x254.Of), (.int .i64 x254.From), (.slice a261 x254.Data.length c262), (.bool x254.Fin), (.int .i64 x254.Seen), (.int .i64 x254.Limit)] 41 :: bl g237 #[(.slice a318 s256.B.length c319), (.int .i64 s256.At), (.bool s256.Bad)] 78 :: Ob_span_Reader g227 s241 :: G) rfl ?_
        have hI := hI.trans hJ338
        have lj317 := lj317.trans hJ338
        replace h109 := h109.up hJ338; replace h248 := h248.up hJ338; replace h263 := h263.up hJ338; replace h320 := h320.up hJ338
        refine WX.del 0 ?_
        refine WX.del 0 ?_
        refine WX.del 0 ?_
        refine WX.del 0 ?_
        exact (kj317 false _ lj317 (Option.some.inj hj317)).sub ⟨rfl, rfl, rfl, trivial⟩
      refine WC.front 1 ?_
      refine WC.front 2 ?_
      refine WC.drawn mo (nthL [[], [], [0, 1], [0, 1, 2], [0, 1, 2, 3], [0, 1, 2, 3], [0, 1, 2, 3, 4, 5], [0, 1, 2, 3, 4, 5, 6], [0, 1, 2, 3, 4, 5, 6, 7], [0, 1, 2, 3, 4, 5, 6, 7, 8], [0, 1, 2, 3, 4, 5, 6, 7, 8, 9], [0, 1, 2, 3, 4, 5, 6, 7, 8, 9, 10], [0, 1, 2, 3, 4, 5, 6, 7, 8, 9, 10, 11], [0, 1, 2, 3, 4, 5, 6, 7, 8, 9, 10, 11, 12], [0, 1, 2, 3, 4, 5, 6, 7, 8, 9, 10, 11], [0, 1, 2, 3, 4, 5, 6, 7, 8, 9, 10, 11, 14], [0, 1, 2, 3, 4, 5, 6, 7, 8, 9, 10, 11, 14, 15], [0, 1, 2, 3, 4, 5, 6, 7, 8, 9, 10, 11, 14, 15, 16], [0, 1, 2, 3, 4, 5, 6, 7, 8, 9, 10, 11, 12, 13, 14, 15, 16, 17], [0, 1, 2, 3, 4, 5, 6, 7, 8, 9, 10, 11, 12, 13, 14, 15, 16, 17, 18], [0, 1, 2, 3, 4, 5, 6, 7, 8, 9, 10, 11, 12, 13, 14, 15, 16, 17, 18, 19]]) (nthL [[], [], [0, 1], [2], [3], [3], [3, 4, 5], [3, 6], [3, 7], [8], [9], [9], [11], [11], [11], [11], [11], [11], [11], [9], [9, 19]]) (nthK [.val (.bool x240), .val (.bool x255), .val (.bool (!(x240 == x255))), .val (.bool false), .val (.agg #[(.int .i64 x239.Kind), (.int .i64 x239.Path), (.int .i64 x239.Number), (.int .i64 x239.Of), (.int .i64 x239.From), (.slice a246 x239.Data.length c247), (.bool x239.Fin), (.int .i64 x239.Seen), (.int .i64 x239.Limit)]), .val (.agg #[(.int .i64 x254.Kind), (.int .i64 x254.Path), (.int .i64 x254.Number), (.int .i64 x254.Of), (.int .i64 x254.From), (.slice a261 x254.Data.length c262), (.bool x254.Fin), (.int .i64 x254.Seen), (.int .i64 x254.Limit)]), .val (.bool x322), .val (.bool (!x322)), .val (.bool (!x322)), .val (.bool true), .val undef, .val undef, .val undef, .val undef, .val undef, .val undef, .val undef, .val undef, .val undef, .val undef, .val (.bool true)]) [⟨none, none, [4], [], fun _ => bl g249 #[(.int .i64 x239.Kind), (.int .i64 x239.Path), (.int .i64 x239.Number), (.int .i64 x239.Of), (.int .i64 x239.From), (.slice a246 x239.Data.length c247), (.bool x239.Fin), (.int .i64 x239.Seen), (.int .i64 x239.Limit)] 41⟩, ⟨none, none, [5], [], fun _ => bl g264 #[(.int .i64 x254.Kind), (.int .i64 x254.Path), (.int .i64 x254.Number), (.int .i64 x254.Of), (.int .i64 x254.From), (.slice a261 x254.Data.length c262), (.bool x254.Fin), (.int .i64 x254.Seen), (.int .i64 x254.Limit)] 41⟩] (by kernel_rfl) (by kernel_rfl) (by kernel_rfl) (H := bl g237 #[(.slice a318 s256.B.length c319), (.int .i64 s256.At), (.bool s256.Bad)] 78 :: Ob_span_Reader g227 s241 :: G) rfl ⟨?_, ?_, ?_, ?_, ?_, ?_, ?_, ?_, ?_, ?_, ?_, ?_, ?_, ?_, ?_, ?_, ?_, ?_, ?_, ?_, ?_, trivial⟩ ?_
      · intro Q ρ I1 H hI1 hk hpost
        have hc := Mem.le.refl I1
        refine mv rfl rfl ?_
        refine WL.nil ?_
        exact hpost _ _ hc rfl _ (fun _ hd => by obtain rfl := Option.some.inj hd; exact ⟨rfl, trivial⟩)
      · intro Q ρ I1 H hI1 hk hpost
        have hc := Mem.le.refl I1
        refine mv rfl rfl ?_
        refine WL.nil ?_
        exact hpost _ _ hc rfl _ (fun _ hd => by obtain rfl := Option.some.inj hd; exact ⟨rfl, trivial⟩)
      · intro Q ρ I1 H hI1 hk hpost
        obtain ⟨_, _, -⟩ := hk
        have hc := Mem.le.refl I1
        refine bn Try.underlying4 rfl rfl rfl ?_
        refine WL.nil ?_
        exact hpost _ _ hc rfl _ (fun _ hd => by obtain rfl := Option.some.inj hd; exact ⟨rfl, trivial⟩)
      · intro Q ρ I1 H hI1 hk hpost
        obtain ⟨_, -⟩ := hk
        have hc := Mem.le.refl I1
        refine mv rfl rfl ?_
        refine WL.nil ?_
        exact hpost _ _ hc (bt1n k321) _ (fun _ hd => by obtain rfl := Option.some.inj hd; exact ⟨rfl, trivial⟩)
      · intro Q ρ I1 H hI1 hk hpost
        obtain ⟨_, -⟩ := hk
        have hc := Mem.le.refl I1
        refine WL.on rfl rfl ?_
        refine lda 0 ya41 rfl rfl rfl rfl rfl ?_
        refine WL.nil ?_
        exact hpost _ _ hc rfl _ (fun _ hd => by obtain rfl := Option.some.inj hd; exact ⟨rfl, trivial⟩)
      · intro Q ρ I1 H hI1 hk hpost
        obtain ⟨_, -⟩ := hk
        have hc := Mem.le.refl I1
        refine WL.on rfl rfl ?_
        refine lda 0 ya41 rfl rfl rfl rfl rfl ?_
        refine WL.nil ?_
        exact hpost _ _ hc rfl _ (fun _ hd => by obtain rfl := Option.some.inj hd; exact ⟨rfl, trivial⟩)
      · intro Q ρ I1 H hI1 hk hpost
        obtain ⟨_, _, _, -⟩ := hk
        replace h248 := h248.up hI1; replace h263 := h263.up hI1
        have hc := Mem.le.refl I1
        refine WL.on rfl rfl ?_
        refine call cl38 rfl rfl (W38 e323 h248 h263) (fun _ J324 _ hJ325 q326 => ?_)
        have hc := hc.trans hJ325
        replace h248 := h248.up hJ325; replace h263 := h263.up hJ325
        obtain ⟨rfl, rfl⟩ := q326
        refine WL.nil ?_
        exact hpost _ _ hc rfl _ (fun _ hd => by obtain rfl := Option.some.inj hd; exact ⟨rfl, trivial⟩)
      · intro Q ρ I1 H hI1 hk hpost
        obtain ⟨_, _, -⟩ := hk
        have hc := Mem.le.refl I1
        refine WL.on rfl rfl ?_
        refine nt rfl rfl ?_
        refine WL.nil ?_
        exact hpost _ _ hc rfl _ (fun _ hd => by obtain rfl := Option.some.inj hd; exact ⟨rfl, trivial⟩)
      · intro Q ρ I1 H hI1 hk hpost
        obtain ⟨_, _, -⟩ := hk
        have hc := Mem.le.refl I1
        refine pkF rfl rfl rfl ?_
        refine WL.nil ?_
        exact hpost _ _ hc rfl _ (fun _ hd => by obtain rfl := Option.some.inj hd; exact ⟨rfl, trivial⟩)
      · intro Q ρ I1 H hI1 hk hpost
        obtain ⟨_, -⟩ := hk
        have hc := Mem.le.refl I1
        refine mv rfl rfl ?_
        refine WL.nil ?_
        exact hpost _ _ hc (bf1n k327) _ (fun _ hd => by obtain rfl := Option.some.inj hd; exact ⟨rfl, trivial⟩)
      · intro Q ρ I1 H hI1 hk hpost
        obtain ⟨_, -⟩ := hk
        have hc := Mem.le.refl I1
        refine WL.no rfl rfl rfl rfl ?_
        refine WL.nil ?_
        exact hpost _ _ hc rfl _ (fun _ hd => by obtain rfl := Option.some.inj hd; exact ⟨rfl, trivial⟩)
      · intro Q ρ I1 H hI1 hk hpost
        obtain ⟨_, -⟩ := hk
        have hc := Mem.le.refl I1
        refine WL.no rfl rfl rfl rfl ?_
        refine WL.nil ?_
        exact hpost _ _ hc rfl _ (fun _ hd => by obtain rfl := Option.some.inj hd; exact ⟨rfl, trivial⟩)
      · intro Q ρ I1 H hI1 hk hpost
        obtain ⟨_, -⟩ := hk
        have hc := Mem.le.refl I1
        refine WL.nu rfl rfl rfl ?_
        refine WL.nil ?_
        exact hpost _ _ hc rfl _ (fun _ hd => by obtain rfl := Option.some.inj hd; exact ⟨rfl, trivial⟩)
      · intro Q ρ I1 H hI1 hk hpost
        obtain ⟨_, -⟩ := hk
        have hc := Mem.le.refl I1
        refine WL.nu rfl rfl rfl ?_
        refine WL.nil ?_
        exact hpost _ _ hc rfl _ (fun _ hd => by obtain rfl := Option.some.inj hd; exact ⟨rfl, trivial⟩)
      · intro Q ρ I1 H hI1 hk hpost
        obtain ⟨_, -⟩ := hk
        have hc := Mem.le.refl I1
        refine WL.nu rfl rfl rfl ?_
        refine WL.nil ?_
        exact hpost _ _ hc rfl _ (fun _ hd => by obtain rfl := Option.some.inj hd; exact ⟨rfl, trivial⟩)
      · intro Q ρ I1 H hI1 hk hpost
        obtain ⟨_, -⟩ := hk
        have hc := Mem.le.refl I1
        refine WL.nu rfl rfl rfl ?_
        refine WL.nil ?_
        exact hpost _ _ hc rfl _ (fun _ hd => by obtain rfl := Option.some.inj hd; exact ⟨rfl, trivial⟩)
      · intro Q ρ I1 H hI1 hk hpost
        obtain ⟨_, -⟩ := hk
        have hc := Mem.le.refl I1
        refine WL.nu rfl rfl rfl ?_
        refine WL.nil ?_
        exact hpost _ _ hc rfl _ (fun _ hd => by obtain rfl := Option.some.inj hd; exact ⟨rfl, trivial⟩)
      · intro Q ρ I1 H hI1 hk hpost
        obtain ⟨_, -⟩ := hk
        have hc := Mem.le.refl I1
        refine WL.nu rfl rfl rfl ?_
        refine WL.nil ?_
        exact hpost _ _ hc rfl _ (fun _ hd => by obtain rfl := Option.some.inj hd; exact ⟨rfl, trivial⟩)
      · intro Q ρ I1 H hI1 hk hpost
        obtain ⟨_, -⟩ := hk
        have hc := Mem.le.refl I1
        refine WL.nu rfl rfl rfl ?_
        refine WL.nil ?_
        exact hpost _ _ hc rfl _ (fun _ hd => by obtain rfl := Option.some.inj hd; exact ⟨rfl, trivial⟩)
      · intro Q ρ I1 H hI1 hk hpost
        obtain ⟨_, -⟩ := hk
        have hc := Mem.le.refl I1
        refine WL.no rfl rfl rfl rfl ?_
        refine WL.nil ?_
        exact hpost _ _ hc rfl _ (fun _ hd => by obtain rfl := Option.some.inj hd; exact ⟨rfl, trivial⟩)
      · intro Q ρ I1 H hI1 hk hpost
        obtain ⟨_, _, -⟩ := hk
        have hc := Mem.le.refl I1
        refine pkT rfl rfl rfl ?_
        refine WL.nil ?_
        exact hpost _ _ hc rfl _ (fun _ hd => by obtain rfl := Option.some.inj hd; exact ⟨rfl, trivial⟩)
      rintro ρ J339 hJ340 -
      refine WX.sub (r := [(0, (.slice a107 x106.length c108)), (5, (.bool p5)), (121, (.bool true))]) ?_ ⟨rfl, rfl, rfl, trivial⟩
      refine WX.is (H := bl g249 #[(.int .i64 x239.Kind), (.int .i64 x239.Path), (.int .i64 x239.Number), (.int .i64 x239.Of), (.int .i64 x239.From), (.slice a246 x239.Data.length c247), (.bool x239.Fin), (.int .i64 x239.Seen), (.int .i64 x239.Limit)] 41 :: bl g264 #[(.int .i64 x254.Kind), (.int .i64 x254.Path), (.int .i64 x254.Number), (.int .i64 x254.Of), (.int .i64 x254.From), (.slice a261 x254.Data.length c262), (.bool x254.Fin), (.int .i64 x254.Seen), (.int .i64 x254.Limit)] 41 :: bl g237 #[(.slice a318 s256.B.length c319), (.int .i64 s256.At), (.bool s256.Bad)] 78 :: Ob_span_Reader g227 s241 :: G) rfl ?_
      have hI := hI.trans hJ340
      have lj317 := lj317.trans hJ340
      replace h109 := h109.up hJ340; replace h248 := h248.up hJ340; replace h263 := h263.up hJ340; replace h320 := h320.up hJ340
      refine WX.del 0 ?_
      refine WX.del 0 ?_
      refine WX.del 0 ?_
      refine WX.del 0 ?_
      exact (kj317 true _ lj317 (Option.some.inj hj317)).sub ⟨rfl, rfl, rfl, trivial⟩
    refine WC.drawn mo (nthL [[], [], [0, 1], [0, 1, 2], [0, 1, 2, 3], [0, 1, 2, 3], [0, 1, 2, 3, 4, 5], [0, 1, 2, 3, 4, 5, 6], [0, 1, 2, 3, 4, 5, 6, 7], [0, 1, 2, 3, 4, 5, 6, 7, 8], [0, 1, 2, 3, 4, 5, 6, 7, 8, 9], [0, 1, 2, 3, 4, 5, 6, 7, 8, 9, 10], [0, 1, 2, 3, 4, 5, 6, 7, 8, 9, 10, 11], [0, 1, 2, 3, 4, 5, 6, 7, 8, 9, 10, 11, 12], [0, 1, 2, 3, 4, 5, 6, 7, 8, 9, 10, 11], [0, 1, 2, 3, 4, 5, 6, 7, 8, 9, 10, 11, 14], [0, 1, 2, 3, 4, 5, 6, 7, 8, 9, 10, 11, 14, 15], [0, 1, 2, 3, 4, 5, 6, 7, 8, 9, 10, 11, 14, 15, 16], [0, 1, 2, 3, 4, 5, 6, 7, 8, 9, 10, 11, 12, 13, 14, 15, 16, 17], [0, 1, 2, 3, 4, 5, 6, 7, 8, 9, 10, 11, 12, 13, 14, 15, 16, 17, 18], [0, 1, 2, 3, 4, 5, 6, 7, 8, 9, 10, 11, 12, 13, 14, 15, 16, 17, 18, 19]]) (nthL [[], [], [0, 1], [2], [3], [3], [3], [3], [3, 7], [8], [9], [9], [11], [11], [11], [11], [11], [11], [11], [9], [9, 19]]) (nthK [.val (.bool x240), .val (.bool x255), .val (.bool (!(x240 == x255))), .val (.bool true), .val undef, .val undef, .val undef, .val undef, .val (.bool true), .val (.bool true), .val undef, .val undef, .val undef, .val undef, .val undef, .val undef, .val undef, .val undef, .val undef, .val undef, .val (.bool true)]) [] (by kernel_rfl) (by kernel_rfl) (by kernel_rfl) (H := bl g237 #[(.slice a318 s256.B.length c319), (.int .i64 s256.At), (.bool s256.Bad)] 78 :: bl g264 #[(.int .i64 x254.Kind), (.int .i64 x254.Path), (.int .i64 x254.Number), (.int .i64 x254.Of), (.int .i64 x254.From), (.slice a261 x254.Data.length c262), (.bool x254.Fin), (.int .i64 x254.Seen), (.int .i64 x254.Limit)] 41 :: bl g249 #[(.int .i64 x239.Kind), (.int .i64 x239.Path), (.int .i64 x239.Number), (.int .i64 x239.Of), (.int .i64 x239.From), (.slice a246 x239.Data.length c247), (.bool x239.Fin), (.int .i64 x239.Seen), (.int .i64 x239.Limit)] 41 :: Ob_span_Reader g227 s241 :: G) rfl ⟨?_, ?_, ?_, ?_, ?_, ?_, ?_, ?_, ?_, ?_, ?_, ?_, ?_, ?_, ?_, ?_, ?_, ?_, ?_, ?_, ?_, trivial⟩ ?_
    · intro Q ρ I1 H hI1 hk hpost
      have hc := Mem.le.refl I1
      refine mv rfl rfl ?_
      refine WL.nil ?_
      exact hpost _ _ hc rfl _ (fun _ hd => by obtain rfl := Option.some.inj hd; exact ⟨rfl, trivial⟩)
    · intro Q ρ I1 H hI1 hk hpost
      have hc := Mem.le.refl I1
      refine mv rfl rfl ?_
      refine WL.nil ?_
      exact hpost _ _ hc rfl _ (fun _ hd => by obtain rfl := Option.some.inj hd; exact ⟨rfl, trivial⟩)
    · intro Q ρ I1 H hI1 hk hpost
      obtain ⟨_, _, -⟩ := hk
      have hc := Mem.le.refl I1
      refine bn Try.underlying4 rfl rfl rfl ?_
      refine WL.nil ?_
      exact hpost _ _ hc rfl _ (fun _ hd => by obtain rfl := Option.some.inj hd; exact ⟨rfl, trivial⟩)
    · intro Q ρ I1 H hI1 hk hpost
      obtain ⟨_, -⟩ := hk
      have hc := Mem.le.refl I1
      refine mv rfl rfl ?_
      refine WL.nil ?_
      exact hpost _ _ hc (bf1n k321) _ (fun _ hd => by obtain rfl := Option.some.inj hd; exact ⟨rfl, trivial⟩)
    · intro Q ρ I1 H hI1 hk hpost
      obtain ⟨_, -⟩ := hk
      have hc := Mem.le.refl I1
      refine WL.no rfl rfl rfl rfl ?_
      refine WL.nil ?_
      exact hpost _ _ hc rfl _ (fun _ hd => by obtain rfl := Option.some.inj hd; exact ⟨rfl, trivial⟩)
    · intro Q ρ I1 H hI1 hk hpost
      obtain ⟨_, -⟩ := hk
      have hc := Mem.le.refl I1
      refine WL.no rfl rfl rfl rfl ?_
      refine WL.nil ?_
      exact hpost _ _ hc rfl _ (fun _ hd => by obtain rfl := Option.some.inj hd; exact ⟨rfl, trivial⟩)
    · intro Q ρ I1 H hI1 hk hpost
      obtain ⟨_, -⟩ := hk
      have hc := Mem.le.refl I1
      refine WL.no rfl rfl rfl rfl ?_
      refine WL.nil ?_
      exact hpost _ _ hc rfl _ (fun _ hd => by obtain rfl := Option.some.inj hd; exact ⟨rfl, trivial⟩)
    · intro Q ρ I1 H hI1 hk hpost
      obtain ⟨_, -⟩ := hk
      have hc := Mem.le.refl I1
      refine WL.no rfl rfl rfl rfl ?_
      refine WL.nil ?_
      exact hpost _ _ hc rfl _ (fun _ hd => by obtain rfl := Option.some.inj hd; exact ⟨rfl, trivial⟩)
    · intro Q ρ I1 H hI1 hk hpost
      obtain ⟨_, _, -⟩ := hk
      have hc := Mem.le.refl I1
      refine pkT rfl rfl rfl ?_
      refine WL.nil ?_
      exact hpost _ _ hc rfl _ (fun _ hd => by obtain rfl := Option.some.inj hd; exact ⟨rfl, trivial⟩)
    · intro Q ρ I1 H hI1 hk hpost
      obtain ⟨_, -⟩ := hk
      have hc := Mem.le.refl I1
      refine mv rfl rfl ?_
      refine WL.nil ?_
      exact hpost _ _ hc rfl _ (fun _ hd => by obtain rfl := Option.some.inj hd; exact ⟨rfl, trivial⟩)
    · intro Q ρ I1 H hI1 hk hpost
      obtain ⟨_, -⟩ := hk
      have hc := Mem.le.refl I1
      refine WL.no rfl rfl rfl rfl ?_
      refine WL.nil ?_
      exact hpost _ _ hc rfl _ (fun _ hd => by obtain rfl := Option.some.inj hd; exact ⟨rfl, trivial⟩)
    · intro Q ρ I1 H hI1 hk hpost
      obtain ⟨_, -⟩ := hk
      have hc := Mem.le.refl I1
      refine WL.no rfl rfl rfl rfl ?_
      refine WL.nil ?_
      exact hpost _ _ hc rfl _ (fun _ hd => by obtain rfl := Option.some.inj hd; exact ⟨rfl, trivial⟩)
    · intro Q ρ I1 H hI1 hk hpost
      obtain ⟨_, -⟩ := hk
      have hc := Mem.le.refl I1
      refine WL.nu rfl rfl rfl ?_
      refine WL.nil ?_
      exact hpost _ _ hc rfl _ (fun _ hd => by obtain rfl := Option.some.inj hd; exact ⟨rfl, trivial⟩)
    · intro Q ρ I1 H hI1 hk hpost
      obtain ⟨_, -⟩ := hk
      have hc := Mem.le.refl I1
      refine WL.nu rfl rfl rfl ?_
      refine WL.nil ?_
      exact hpost _ _ hc rfl _ (fun _ hd => by obtain rfl := Option.some.inj hd; exact ⟨rfl, trivial⟩)
    · intro Q ρ I1 H hI1 hk hpost
      obtain ⟨_, -⟩ := hk
      have hc := Mem.le.refl I1
      refine WL.nu rfl rfl rfl ?_
      refine WL.nil ?_
      exact hpost _ _ hc rfl _ (fun _ hd => by obtain rfl := Option.some.inj hd; exact ⟨rfl, trivial⟩)
    · intro Q ρ I1 H hI1 hk hpost
      obtain ⟨_, -⟩ := hk
      have hc := Mem.le.refl I1
      refine WL.nu rfl rfl rfl ?_
      refine WL.nil ?_
      exact hpost _ _ hc rfl _ (fun _ hd => by obtain rfl := Option.some.inj hd; exact ⟨rfl, trivial⟩)
    · intro Q ρ I1 H hI1 hk hpost
      obtain ⟨_, -⟩ := hk
      have hc := Mem.le.refl I1
      refine WL.nu rfl rfl rfl ?_
      refine WL.nil ?_
      exact hpost _ _ hc rfl _ (fun _ hd => by obtain rfl := Option.some.inj hd; exact ⟨rfl, trivial⟩)
    · intro Q ρ I1 H hI1 hk hpost
      obtain ⟨_, -⟩ := hk
      have hc := Mem.le.refl I1
      refine WL.nu rfl rfl rfl ?_
      refine WL.nil ?_
      exact hpost _ _ hc rfl _ (fun _ hd => by obtain rfl := Option.some.inj hd; exact ⟨rfl, trivial⟩)
    · intro Q ρ I1 H hI1 hk hpost
      obtain ⟨_, -⟩ := hk
      have hc := Mem.le.refl I1
      refine WL.nu rfl rfl rfl ?_
      refine WL.nil ?_
      exact hpost _ _ hc rfl _ (fun _ hd => by obtain rfl := Option.some.inj hd; exact ⟨rfl, trivial⟩)
    · intro Q ρ I1 H hI1 hk hpost
      obtain ⟨_, -⟩ := hk
      have hc := Mem.le.refl I1
      refine WL.no rfl rfl rfl rfl ?_
      refine WL.nil ?_
      exact hpost _ _ hc rfl _ (fun _ hd => by obtain rfl := Option.some.inj hd; exact ⟨rfl, trivial⟩)
    · intro Q ρ I1 H hI1 hk hpost
      obtain ⟨_, _, -⟩ := hk
      have hc := Mem.le.refl I1
      refine pkT rfl rfl rfl ?_
      refine WL.nil ?_
      exact hpost _ _ hc rfl _ (fun _ hd => by obtain rfl := Option.some.inj hd; exact ⟨rfl, trivial⟩)
    rintro ρ J341 hJ342 -
    refine WX.sub (r := [(0, (.slice a107 x106.length c108)), (5, (.bool p5)), (121, (.bool true))]) ?_ ⟨rfl, rfl, rfl, trivial⟩
    refine WX.is (H := bl g237 #[(.slice a318 s256.B.length c319), (.int .i64 s256.At), (.bool s256.Bad)] 78 :: bl g264 #[(.int .i64 x254.Kind), (.int .i64 x254.Path), (.int .i64 x254.Number), (.int .i64 x254.Of), (.int .i64 x254.From), (.slice a261 x254.Data.length c262), (.bool x254.Fin), (.int .i64 x254.Seen), (.int .i64 x254.Limit)] 41 :: bl g249 #[(.int .i64 x239.Kind), (.int .i64 x239.Path), (.int .i64 x239.Number), (.int .i64 x239.Of), (.int .i64 x239.From), (.slice a246 x239.Data.length c247), (.bool x239.Fin), (.int .i64 x239.Seen), (.int .i64 x239.Limit)] 41 :: Ob_span_Reader g227 s241 :: G) rfl ?_
    have hI := hI.trans hJ342
    have lj317 := lj317.trans hJ342
    replace h109 := h109.up hJ342; replace h320 := h320.up hJ342; replace h263 := h263.up hJ342; replace h248 := h248.up hJ342
    refine WX.del 0 ?_
    refine WX.del 0 ?_
    refine WX.del 0 ?_
    refine WX.del 0 ?_
    exact (kj317 true _ lj317 (Option.some.inj hj317)).sub ⟨rfl, rfl, rfl, trivial⟩
  rintro x316 J343 hJ344 rfl
  have hI := hI.trans hJ344
  replace h109 := h109.up hJ344
  refine WX.then_ ?_
  refine WC.iteb rfl h (fun k345 h => ?_) (fun k345 h => ?_)
  · skip
    refine WC.seq ?_
    refine WC.region ?_
    refine asg rfl rfl ?_
    refine WL.next ?_
    refine WC.ret ?_
    refine WX.then_ret ?_
    cases h
    exact ret1 Try.results14 rfl hI ⟨rfl, rfl⟩
  refine WC.skip ?_
  refine WX.then_ ?_
  refine WC.seq ?_
  refine WC.seq ?_
  refine WC.region ?_
  refine mv rfl rfl ?_
  refine WL.next ?_
  obtain ⟨j359, hj359, h⟩ := bnd h
  refine WC.joinQ (σ := (List UInt8) × (Option Addr) × Nat) (fun (x355, a356, c357) => [(0, (.slice a356 x355.length c357))]) (fun (x355, a356, c357) => G) (fun (x355, a356, c357) J => x355 = j359 ∧ IV J (.slice a356 x355.length c357) x355) (fun kj359 => ?_) ?_
  · skip
    have lj359 := Mem.le.refl J343
    refine WC.iteb rfl hj359 (fun k360 hj359 => ?_) (fun k360 hj359 => ?_)
    · skip
      refine WC.region ?_
      refine mv rfl rfl ?_
      obtain ⟨x361, e362, hj359⟩ := bnd hj359
      refine call cl26 rfl rfl (W26 e362 h109) (fun _ J363 _ hJ364 q365 => ?_)
      have hI := hI.trans hJ364
      have lj359 := lj359.trans hJ364
      replace h109 := h109.up hJ364
      obtain ⟨a366, c367, rfl, rfl⟩ := q365
      refine asg rfl rfl ?_
      refine WL.nil ?_
      refine WX.freeze (fun J369 hJ370 h371 => ?_)
      have hI := hI.trans hJ370
      have lj359 := lj359.trans hJ370
      exact (kj359 ⟨x361, _, _⟩ _ lj359 ⟨Option.some.inj hj359, h371⟩).sub ⟨rfl, trivial⟩
    refine WC.skip ?_
    exact (kj359 ⟨x106, _, _⟩ _ lj359 ⟨Option.some.inj hj359, h109⟩).sub ⟨rfl, trivial⟩
  rintro ⟨x355, a356, c357⟩ J372 hJ373 ⟨rfl, h358⟩
  have hI := hI.trans hJ373
  refine WX.then_ ?_
  refine WC.seq ?_
  refine WC.region ?_
  refine mv rfl rfl ?_
  obtain ⟨x374, e375, h⟩ := bnd h
  refine call cl21 rfl rfl (W21 e375 h358) (fun _ J376 _ hJ377 q378 => ?_)
  have hI := hI.trans hJ377
  replace h358 := h358.up hJ377
  obtain ⟨a379, c380, rfl, h381, h382, rfl⟩ := q378
  refine asg rfl rfl ?_
  refine WL.next ?_
  refine WC.seq ?_
  refine WC.region ?_
  refine mv rfl rfl ?_
  obtain ⟨⟨x383, x384⟩, e385, h⟩ := bnd h
  refine call cl50 rfl rfl (W50 e385 h381) (fun _ J386 _ hJ387 q388 => ?_)
  have hI := hI.trans hJ387
  replace h358 := h358.up hJ387; replace h381 := h381.up hJ387; replace h382 := h382.up hJ387
  obtain ⟨a389, c390, rfl, h391, rfl⟩ := q388
  refine mv rfl rfl ?_
  refine ex rfl rfl rfl ?_
  refine ex rfl rfl rfl ?_
  refine al Try.zeroValue41 rfl (fun g392 => ?_)
  refine sta (C' := #[(.int .i64 x383.Kind), (.int .i64 x383.Path), (.int .i64 x383.Number), (.int .i64 x383.Of), (.int .i64 x383.From), (.slice a389 x383.Data.length c390), (.bool x383.Fin), (.int .i64 x383.Seen), (.int .i64 x383.Limit)]) sz41 rfl rfl rfl rfl rfl rfl ?_
  refine asg rfl rfl ?_
  refine WL.next ?_
  refine WC.seq ?_
  refine WC.region ?_
  refine mv rfl rfl ?_
  obtain ⟨⟨x394, x395⟩, e396, h⟩ := bnd h
  refine call cl53 rfl rfl (W53 e396 h358) (fun _ J397 _ hJ398 q399 => ?_)
  have hI := hI.trans hJ398
  replace h358 := h358.up hJ398; replace h381 := h381.up hJ398; replace h382 := h382.up hJ398; replace h391 := h391.up hJ398
  obtain ⟨a400, c401, rfl, h402, rfl⟩ := q399
  refine mv rfl rfl ?_
  refine ex rfl rfl rfl ?_
  refine ex rfl rfl rfl ?_
  refine al Try.zeroValue41 rfl (fun g403 => ?_)
  refine sta (C' := #[(.int .i64 x394.Kind), (.int .i64 x394.Path), (.int .i64 x394.Number), (.int .i64 x394.Of), (.int .i64 x394.From), (.slice a400 x394.Data.length c401), (.bool x394.Fin), (.int .i64 x394.Seen), (.int .i64 x394.Limit)]) sz41 rfl rfl rfl rfl rfl rfl ?_
  refine asg rfl rfl ?_
  refine WL.next ?_
  refine WC.seq ?_
  refine WC.region ?_
  refine mv rfl rfl ?_
  refine eq rfl rfl rfl ?_
  refine mv rfl rfl ?_
  refine be Try.underlying4 rfl rfl rfl ?_
  refine mv rfl rfl ?_
  rcases spl h with ⟨k405, h⟩ | ⟨k405, h⟩
  · skip
    refine WL.rb 141 rfl (bt1 k405) ?_
    refine WL.on rfl rfl ?_
    refine mv rfl rfl ?_
    refine WL.on rfl rfl ?_
    refine mv rfl rfl ?_
    rcases spl h with ⟨k406, h⟩ | ⟨k406, h⟩
    · skip
      refine WL.rb 143 rfl (bt1 k406) ?_
      refine WL.no rfl rfl rfl rfl ?_
      refine WL.no rfl rfl rfl rfl ?_
      refine WL.on rfl rfl ?_
      refine pkT rfl rfl rfl ?_
      refine pkT rfl rfl rfl ?_
      refine mv rfl rfl ?_
      refine WL.on rfl rfl ?_
      refine lda 1 ya41 rfl rfl rfl rfl rfl ?_
      refine WL.on rfl rfl ?_
      refine lda 0 ya41 rfl rfl rfl rfl rfl ?_
      refine WL.on rfl rfl ?_
      obtain ⟨x407, e408, h⟩ := bnd h
      refine call cl38 rfl rfl (W38 e408 h391 h402) (fun _ J409 _ hJ410 q411 => ?_)
      have hI := hI.trans hJ410
      replace h358 := h358.up hJ410; replace h381 := h381.up hJ410; replace h382 := h382.up hJ410; replace h391 := h391.up hJ410; replace h402 := h402.up hJ410
      obtain ⟨rfl, rfl⟩ := q411
      refine pkT rfl rfl rfl ?_
      refine mv rfl rfl ?_
      rcases spl h with ⟨k412, h⟩ | ⟨k412, h⟩
      · skip
        refine WL.rb 153 rfl (bt1 k412) ?_
        refine WL.on rfl rfl ?_
        refine mv rfl rfl ?_
        refine WL.on rfl rfl ?_
        refine mv rfl rfl ?_
        refine WL.on rfl rfl ?_
        obtain ⟨x413, e414, h⟩ := bnd h
        refine call cl28 rfl rfl (W28 e414 h382 h358) (fun _ J415 _ hJ416 q417 => ?_)
        have hI := hI.trans hJ416
        replace h358 := h358.up hJ416; replace h381 := h381.up hJ416; replace h382 := h382.up hJ416; replace h391 := h391.up hJ416; replace h402 := h402.up hJ416
        obtain ⟨rfl, rfl⟩ := q417
        refine pkT rfl rfl rfl ?_
        refine mv rfl rfl ?_
        rcases spl h with ⟨k418, h⟩ | ⟨k418, h⟩
        · skip
          refine WL.rb 158 rfl (bt1 k418) ?_
          refine WL.on rfl rfl ?_
          obtain ⟨x419, e420, h⟩ := bnd h
          refine call cl33 rfl rfl (W33 e420) (fun _ J421 _ hJ422 q423 => ?_)
          have hI := hI.trans hJ422
          replace h358 := h358.up hJ422; replace h381 := h381.up hJ422; replace h382 := h382.up hJ422; replace h391 := h391.up hJ422; replace h402 := h402.up hJ422
          obtain ⟨rfl, rfl⟩ := q423
          refine pkT rfl rfl rfl ?_
          refine asg rfl rfl ?_
          refine WL.del 0 ?_
          refine WL.del 0 ?_
          refine WL.next ?_
          refine WC.ret ?_
          cases h
          exact ret1 Try.results14 rfl hI ⟨rfl, rfl⟩
        refine WL.rb 158 rfl (bf1 k418) ?_
        refine WL.no rfl rfl rfl rfl ?_
        refine pkF rfl rfl rfl ?_
        refine asg rfl rfl ?_
        refine WL.del 0 ?_
        refine WL.del 0 ?_
        refine WL.next ?_
        refine WC.ret ?_
        cases h
        exact ret1 Try.results14 rfl hI ⟨rfl, rfl⟩
      refine WL.rb 153 rfl (bf1 k412) ?_
      refine WL.no rfl rfl rfl rfl ?_
      refine WL.no rfl rfl rfl rfl ?_
      refine WL.no rfl rfl rfl rfl ?_
      refine pkF rfl rfl rfl ?_
      refine mv rfl rfl ?_
      refine WL.no rfl rfl rfl rfl ?_
      refine pkF rfl rfl rfl ?_
      refine asg rfl rfl ?_
      refine WL.del 0 ?_
      refine WL.del 0 ?_
      refine WL.next ?_
      refine WC.ret ?_
      cases h
      exact ret1 Try.results14 rfl hI ⟨rfl, rfl⟩
    refine WL.rb 143 rfl (bf1 k406) ?_
    refine WL.on rfl rfl ?_
    refine mv rfl rfl ?_
    refine WL.on rfl rfl ?_
    refine eq rfl rfl rfl ?_
    refine WL.on rfl rfl ?_
    refine pkF rfl rfl rfl ?_
    refine pkT rfl rfl rfl ?_
    refine mv rfl rfl ?_
    rcases spl h with ⟨k424, h⟩ | ⟨k424, h⟩
    · skip
      refine WL.rb 148 rfl (bT k424) ?_
      refine WL.on rfl rfl ?_
      refine lda 1 ya41 rfl rfl rfl rfl rfl ?_
      refine WL.on rfl rfl ?_
      refine lda 0 ya41 rfl rfl rfl rfl rfl ?_
      refine WL.on rfl rfl ?_
      obtain ⟨x425, e426, h⟩ := bnd h
      refine call cl38 rfl rfl (W38 e426 h391 h402) (fun _ J427 _ hJ428 q429 => ?_)
      have hI := hI.trans hJ428
      replace h358 := h358.up hJ428; replace h381 := h381.up hJ428; replace h382 := h382.up hJ428; replace h391 := h391.up hJ428; replace h402 := h402.up hJ428
      obtain ⟨rfl, rfl⟩ := q429
      refine pkT rfl rfl rfl ?_
      refine mv rfl rfl ?_
      rcases spl h with ⟨k430, h⟩ | ⟨k430, h⟩
      · skip
        refine WL.rb 153 rfl (bt1 k430) ?_
        refine WL.on rfl rfl ?_
        refine mv rfl rfl ?_
        refine WL.on rfl rfl ?_
        refine mv rfl rfl ?_
        refine WL.on rfl rfl ?_
        obtain ⟨x431, e432, h⟩ := bnd h
        refine call cl28 rfl rfl (W28 e432 h382 h358) (fun _ J433 _ hJ434 q435 => ?_)
        have hI := hI.trans hJ434
        replace h358 := h358.up hJ434; replace h381 := h381.up hJ434; replace h382 := h382.up hJ434; replace h391 := h391.up hJ434; replace h402 := h402.up hJ434
        obtain ⟨rfl, rfl⟩ := q435
        refine pkT rfl rfl rfl ?_
        refine mv rfl rfl ?_
        rcases spl h with ⟨k436, h⟩ | ⟨k436, h⟩
        · skip
          refine WL.rb 158 rfl (bt1 k436) ?_
          refine WL.on rfl rfl ?_
          obtain ⟨x437, e438, h⟩ := bnd h
          refine call cl33 rfl rfl (W33 e438) (fun _ J439 _ hJ440 q441 => ?_)
          have hI := hI.trans hJ440
          replace h358 := h358.up hJ440; replace h381 := h381.up hJ440; replace h382 := h382.up hJ440; replace h391 := h391.up hJ440; replace h402 := h402.up hJ440
          obtain ⟨rfl, rfl⟩ := q441
          refine pkT rfl rfl rfl ?_
          refine asg rfl rfl ?_
          refine WL.del 0 ?_
          refine WL.del 0 ?_
          refine WL.next ?_
          refine WC.ret ?_
          cases h
          exact ret1 Try.results14 rfl hI ⟨rfl, rfl⟩
        refine WL.rb 158 rfl (bf1 k436) ?_
        refine WL.no rfl rfl rfl rfl ?_
        refine pkF rfl rfl rfl ?_
        refine asg rfl rfl ?_
        refine WL.del 0 ?_
        refine WL.del 0 ?_
        refine WL.next ?_
        refine WC.ret ?_
        cases h
        exact ret1 Try.results14 rfl hI ⟨rfl, rfl⟩
      refine WL.rb 153 rfl (bf1 k430) ?_
      refine WL.no rfl rfl rfl rfl ?_
      refine WL.no rfl rfl rfl rfl ?_
      refine WL.no rfl rfl rfl rfl ?_
      refine pkF rfl rfl rfl ?_
      refine mv rfl rfl ?_
      refine WL.no rfl rfl rfl rfl ?_
      refine pkF rfl rfl rfl ?_
      refine asg rfl rfl ?_
      refine WL.del 0 ?_
      refine WL.del 0 ?_
      refine WL.next ?_
      refine WC.ret ?_
      cases h
      exact ret1 Try.results14 rfl hI ⟨rfl, rfl⟩
    refine WL.rb 148 rfl (bF k424) ?_
    refine WL.no rfl rfl rfl rfl ?_
    refine WL.no rfl rfl rfl rfl ?_
    refine WL.no rfl rfl rfl rfl ?_
    refine pkF rfl rfl rfl ?_
    refine mv rfl rfl ?_
    refine WL.no rfl rfl rfl rfl ?_
    refine WL.no rfl rfl rfl rfl ?_
    refine WL.no rfl rfl rfl rfl ?_
    refine pkF rfl rfl rfl ?_
    refine mv rfl rfl ?_
    refine WL.no rfl rfl rfl rfl ?_
    refine pkF rfl rfl rfl ?_
    refine asg rfl rfl ?_
    refine WL.del 0 ?_
    refine WL.del 0 ?_
    refine WL.next ?_
    refine WC.ret ?_
    cases h
    exact ret1 Try.results14 rfl hI ⟨rfl, rfl⟩
  refine WL.rb 141 rfl (bf1 k405) ?_
  refine WL.no rfl rfl rfl rfl ?_
  refine WL.no rfl rfl rfl rfl ?_
  refine WL.nu rfl rfl rfl ?_
  refine WL.nu rfl rfl rfl ?_
  refine WL.no rfl rfl rfl rfl ?_
  refine pkF rfl rfl rfl ?_
  refine mv rfl rfl ?_
  refine WL.no rfl rfl rfl rfl ?_
  refine WL.no rfl rfl rfl rfl ?_
  refine WL.no rfl rfl rfl rfl ?_
  refine pkF rfl rfl rfl ?_
  refine mv rfl rfl ?_
  refine WL.no rfl rfl rfl rfl ?_
  refine WL.no rfl rfl rfl rfl ?_
  refine WL.no rfl rfl rfl rfl ?_
  refine pkF rfl rfl rfl ?_
  refine mv rfl rfl ?_
  refine WL.no rfl rfl rfl rfl ?_
  refine pkF rfl rfl rfl ?_
  refine asg rfl rfl ?_
  refine WL.del 0 ?_
  refine WL.del 0 ?_
  refine WL.next ?_
  refine WC.ret ?_
  cases h
  exact ret1 Try.results14 rfl hI ⟨rfl, rfl⟩
end Go.Proofs.Ytgobccnphhljcaa
