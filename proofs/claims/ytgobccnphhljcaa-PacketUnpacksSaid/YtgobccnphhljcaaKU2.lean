/- Printed by a program of this session: walks of Go functions. -/
import Derived.Test.YtgobccnphhljcaaKf
import Derived.Test.YtgobccnphhljcaaDf
import Derived.Test.YtgobccnphhljcaaKU1
namespace Go.Proofs.Ytgobccnphhljcaa
set_option linter.unusedVariables false
set_option maxRecDepth 10000
set_option maxHeartbeats 2000000
theorem W66 {I : Mem} {G : List Asn} {p0 : api_Packet} {r : Bool} (h : haulierref01_Right p0 = some r) {u0_5 : Value} (hp0_5 : IV I u0_5 p0.Data) :
    CallsS Try.prog 66 #[.agg #[(.int .i64 p0.Kind), (.int .i64 p0.Path), (.int .i64 p0.Number), (.int .i64 p0.Of), (.int .i64 p0.From), u0_5, (.bool p0.Fin), (.int .i64 p0.Seen), (.int .i64 p0.Limit)]] I (G) (fun v J G' => v = .bool r ∧ G = G') := by
  refine CallsS.enter Try.func66 rfl Try.ntmps66 rfl (fun w0 => ?_)
  have hI := Mem.le.refl I
  obtain ⟨a0_5, c0_5, rfl⟩ := hp0_5.hd
  unfold haulierref01_Right at h
  refine WC.seq ?_
  refine WC.region ?_
  refine bx rfl rfl rfl (fun g1 => ?_)
  refine asg rfl rfl ?_
  refine WL.next ?_
  refine WC.seq ?_
  refine WC.seq ?_
  obtain ⟨j38, hj38, h⟩ := bnd h
  refine WC.joinQ (σ := Bool) (fun x37 => [(1, (.pointer (some ⟨g1, 0, none⟩))), (21, (.bool x37))]) (fun x37 => bl g1 #[(.int .i64 p0.Kind), (.int .i64 p0.Path), (.int .i64 p0.Number), (.int .i64 p0.Of), (.int .i64 p0.From), (.slice a0_5 p0.Data.length c0_5), (.bool p0.Fin), (.int .i64 p0.Seen), (.int .i64 p0.Limit)] 41 :: G) (fun x37 J => x37 = j38) (fun kj38 => ?_) ?_
  · skip
    have lj38 := Mem.le.refl I
    refine WC.region ?_
    refine fa fl41_0 rfl rfl ?_
    refine ld 0 na3 rfl rfl rfl rfl ?_
    obtain ⟨x39, e40, hj38⟩ := bnd hj38
    refine call cl82 rfl rfl (W82 e40) (fun _ J41 _ hJ42 q43 => ?_)
    have hI := hI.trans hJ42
    have lj38 := lj38.trans hJ42
    replace hp0_5 := hp0_5.up hJ42
    obtain ⟨rfl, rfl⟩ := q43
    refine nt rfl rfl ?_
    refine mv rfl rfl ?_
    rcases spl hj38 with ⟨k44, hj38⟩ | ⟨k44, hj38⟩
    · skip
      refine WL.rb 10 rfl (bt1n k44) ?_
      refine WL.on rfl rfl ?_
      refine fa fl41_1 rfl rfl ?_
      refine WL.on rfl rfl ?_
      refine ld 0 na3 rfl rfl rfl rfl ?_
      refine WL.on rfl rfl ?_
      obtain ⟨x45, e46, hj38⟩ := bnd hj38
      refine call cl82 rfl rfl (W82 e46) (fun _ J47 _ hJ48 q49 => ?_)
      have hI := hI.trans hJ48
      have lj38 := lj38.trans hJ48
      replace hp0_5 := hp0_5.up hJ48
      obtain ⟨rfl, rfl⟩ := q49
      refine WL.on rfl rfl ?_
      refine nt rfl rfl ?_
      refine pkF rfl rfl rfl ?_
      refine mv rfl rfl ?_
      rcases spl hj38 with ⟨k50, hj38⟩ | ⟨k50, hj38⟩
      · skip
        refine WL.rb 16 rfl (bt1n k50) ?_
        refine WL.on rfl rfl ?_
        refine fa fl41_2 rfl rfl ?_
        refine WL.on rfl rfl ?_
        refine ld 0 na3 rfl rfl rfl rfl ?_
        refine WL.on rfl rfl ?_
        obtain ⟨x51, e52, hj38⟩ := bnd hj38
        refine call cl82 rfl rfl (W82 e52) (fun _ J53 _ hJ54 q55 => ?_)
        have hI := hI.trans hJ54
        have lj38 := lj38.trans hJ54
        replace hp0_5 := hp0_5.up hJ54
        obtain ⟨rfl, rfl⟩ := q55
        refine WL.on rfl rfl ?_
        refine nt rfl rfl ?_
        refine pkF rfl rfl rfl ?_
        refine WL.nil ?_
        exact (kj38 (!x51) _ lj38 (Option.some.inj hj38)).sub ⟨rfl, rfl, trivial⟩
      refine WL.rb 16 rfl (bf1n k50) ?_
      refine WL.no rfl rfl rfl rfl ?_
      refine WL.no rfl rfl rfl rfl ?_
      refine WL.no rfl rfl rfl rfl ?_
      refine WL.no rfl rfl rfl rfl ?_
      refine pkT rfl rfl rfl ?_
      refine WL.nil ?_
      exact (kj38 true _ lj38 (Option.some.inj hj38)).sub ⟨rfl, rfl, trivial⟩
    refine WL.rb 10 rfl (bf1n k44) ?_
    refine WL.no rfl rfl rfl rfl ?_
    refine WL.no rfl rfl rfl rfl ?_
    refine WL.no rfl rfl rfl rfl ?_
    refine WL.no rfl rfl rfl rfl ?_
    refine pkT rfl rfl rfl ?_
    refine mv rfl rfl ?_
    refine WL.no rfl rfl rfl rfl ?_
    refine WL.no rfl rfl rfl rfl ?_
    refine WL.no rfl rfl rfl rfl ?_
    refine WL.no rfl rfl rfl rfl ?_
    refine pkT rfl rfl rfl ?_
    refine WL.nil ?_
    exact (kj38 true _ lj38 (Option.some.inj hj38)).sub ⟨rfl, rfl, trivial⟩
  rintro x37 J56 hJ57 rfl
  have hI := hI.trans hJ57
  replace hp0_5 := hp0_5.up hJ57
  refine WX.then_ ?_
  refine WC.iteb rfl h (fun k58 h => ?_) (fun k58 h => ?_)
  · skip
    refine WC.seq ?_
    refine WC.region ?_
    refine asg rfl rfl ?_
    refine WL.del 0 ?_
    refine WL.next ?_
    refine WC.ret ?_
    refine WX.then_ret ?_
    cases h
    exact ret1 Try.results66 rfl hI ⟨rfl, rfl⟩
  refine WC.skip ?_
  refine WX.then_ ?_
  refine WC.seq ?_
  obtain ⟨j72, hj72, h⟩ := bnd h
  refine WC.joinQ (σ := Bool × Bool × Bool) (fun (x69, x70, x71) => [(1, (.pointer (some ⟨g1, 0, none⟩))), (3, (.bool x69)), (4, (.bool x70)), (5, (.bool x71))]) (fun (x69, x70, x71) => bl g1 #[(.int .i64 p0.Kind), (.int .i64 p0.Path), (.int .i64 p0.Number), (.int .i64 p0.Of), (.int .i64 p0.From), (.slice a0_5 p0.Data.length c0_5), (.bool p0.Fin), (.int .i64 p0.Seen), (.int .i64 p0.Limit)] 41 :: G) (fun (x69, x70, x71) J => (x69, x70, x71) = j72) (fun kj72 => ?_) ?_
  · skip
    have lj72 := Mem.le.refl J56
    refine WC.sub (r := [(1, (.pointer (some ⟨g1, 0, none⟩)))]) ?_ ⟨rfl, trivial⟩
    rcases spl hj72 with ⟨k73, hj72⟩ | ⟨k73, hj72⟩
    · skip
      refine WC.drawn mo (nthL [[], [0], [0, 1], [0, 1, 2], [0, 1, 2, 3], [0, 1, 2, 3, 4], [0, 1, 2, 3, 4, 5], [0, 1, 2, 3, 4, 5, 6], [], [8], [8, 9], [], [11], [11, 12], [0, 1, 2, 3, 4, 5, 6, 7], [0, 1, 2, 3, 4, 5, 6, 7, 8, 9, 10, 14], [0, 1, 2, 3, 4, 5, 6, 7, 8, 9, 10, 11, 12, 13, 14, 15]]) (nthL [[], [0], [1], [2], [3], [3], [3], [3, 6], [], [8], [9], [], [11], [12], [7], [10], [13]]) (nthK [.val (.pointer (some ⟨g1, 0, none⟩)), .val (.int .i64 p0.Kind), .val (.bool (decide (p0.Kind = 2))), .val (.bool true), .val undef, .val undef, .val undef, .val (.bool true), .val (.pointer (some ⟨g1, 0, none⟩)), .val (.int .i64 p0.Kind), .val (.bool (decide (p0.Kind = 3))), .val (.pointer (some ⟨g1, 0, none⟩)), .val (.int .i64 p0.Kind), .val (.bool (decide (p0.Kind = 4))), .val (.bool true), .val (.bool (decide (p0.Kind = 3))), .val (.bool (decide (p0.Kind = 4)))]) [⟨none, none, [1, 9, 12], [], fun _ => bl g1 #[(.int .i64 p0.Kind), (.int .i64 p0.Path), (.int .i64 p0.Number), (.int .i64 p0.Of), (.int .i64 p0.From), (.slice a0_5 p0.Data.length c0_5), (.bool p0.Fin), (.int .i64 p0.Seen), (.int .i64 p0.Limit)] 41⟩] (by kernel_rfl) (by kernel_rfl) (by kernel_rfl) (H := G) rfl ⟨?_, ?_, ?_, ?_, ?_, ?_, ?_, ?_, ?_, ?_, ?_, ?_, ?_, ?_, ?_, ?_, ?_, trivial⟩ ?_
      · intro Q ρ I1 H hI1 hk hpost
        have hc := Mem.le.refl I1
        refine fa fl41_0 rfl rfl ?_
        refine WL.nil ?_
        exact hpost _ _ hc rfl _ (fun _ hd => by obtain rfl := Option.some.inj hd; exact ⟨rfl, trivial⟩)
      · intro Q ρ I1 H hI1 hk hpost
        obtain ⟨_, -⟩ := hk
        have hc := Mem.le.refl I1
        refine ld 0 na3 rfl rfl rfl rfl ?_
        refine WL.nil ?_
        exact hpost _ _ hc rfl _ (fun _ hd => by obtain rfl := Option.some.inj hd; exact ⟨rfl, trivial⟩)
      · intro Q ρ I1 H hI1 hk hpost
        obtain ⟨_, -⟩ := hk
        have hc := Mem.le.refl I1
        refine eq rfl rfl rfl ?_
        refine WL.nil ?_
        exact hpost _ _ hc rfl _ (fun _ hd => by obtain rfl := Option.some.inj hd; exact ⟨rfl, trivial⟩)
      · intro Q ρ I1 H hI1 hk hpost
        obtain ⟨_, -⟩ := hk
        have hc := Mem.le.refl I1
        refine mv rfl rfl ?_
        refine WL.nil ?_
        exact hpost _ _ hc (bT k73) _ (fun _ hd => by obtain rfl := Option.some.inj hd; exact ⟨rfl, trivial⟩)
      · intro Q ρ I1 H hI1 hk hpost
        obtain ⟨_, -⟩ := hk
        have hc := Mem.le.refl I1
        refine WL.no rfl rfl rfl rfl ?_
        refine WL.nil ?_
        exact hpost _ _ hc rfl _ (fun _ hd => by obtain rfl := Option.some.inj hd; exact ⟨rfl, trivial⟩)
      · intro Q ρ I1 H hI1 hk hpost
        obtain ⟨_, -⟩ := hk
        have hc := Mem.le.refl I1
        refine WL.no rfl rfl rfl rfl ?_
        refine WL.nil ?_
        exact hpost _ _ hc rfl _ (fun _ hd => by obtain rfl := Option.some.inj hd; exact ⟨rfl, trivial⟩)
      · intro Q ρ I1 H hI1 hk hpost
        obtain ⟨_, -⟩ := hk
        have hc := Mem.le.refl I1
        refine WL.no rfl rfl rfl rfl ?_
        refine WL.nil ?_
        exact hpost _ _ hc rfl _ (fun _ hd => by obtain rfl := Option.some.inj hd; exact ⟨rfl, trivial⟩)
      · intro Q ρ I1 H hI1 hk hpost
        obtain ⟨_, _, -⟩ := hk
        have hc := Mem.le.refl I1
        refine pkT rfl rfl rfl ?_
        refine WL.nil ?_
        exact hpost _ _ hc rfl _ (fun _ hd => by obtain rfl := Option.some.inj hd; exact ⟨rfl, trivial⟩)
      · intro Q ρ I1 H hI1 hk hpost
        have hc := Mem.le.refl I1
        refine fa fl41_0 rfl rfl ?_
        refine WL.nil ?_
        exact hpost _ _ hc rfl _ (fun _ hd => by obtain rfl := Option.some.inj hd; exact ⟨rfl, trivial⟩)
      · intro Q ρ I1 H hI1 hk hpost
        obtain ⟨_, -⟩ := hk
        have hc := Mem.le.refl I1
        refine ld 0 na3 rfl rfl rfl rfl ?_
        refine WL.nil ?_
        exact hpost _ _ hc rfl _ (fun _ hd => by obtain rfl := Option.some.inj hd; exact ⟨rfl, trivial⟩)
      · intro Q ρ I1 H hI1 hk hpost
        obtain ⟨_, -⟩ := hk
        have hc := Mem.le.refl I1
        refine eq rfl rfl rfl ?_
        refine WL.nil ?_
        exact hpost _ _ hc rfl _ (fun _ hd => by obtain rfl := Option.some.inj hd; exact ⟨rfl, trivial⟩)
      · intro Q ρ I1 H hI1 hk hpost
        have hc := Mem.le.refl I1
        refine fa fl41_0 rfl rfl ?_
        refine WL.nil ?_
        exact hpost _ _ hc rfl _ (fun _ hd => by obtain rfl := Option.some.inj hd; exact ⟨rfl, trivial⟩)
      · intro Q ρ I1 H hI1 hk hpost
        obtain ⟨_, -⟩ := hk
        have hc := Mem.le.refl I1
        refine ld 0 na3 rfl rfl rfl rfl ?_
        refine WL.nil ?_
        exact hpost _ _ hc rfl _ (fun _ hd => by obtain rfl := Option.some.inj hd; exact ⟨rfl, trivial⟩)
      · intro Q ρ I1 H hI1 hk hpost
        obtain ⟨_, -⟩ := hk
        have hc := Mem.le.refl I1
        refine eq rfl rfl rfl ?_
        refine WL.nil ?_
        exact hpost _ _ hc rfl _ (fun _ hd => by obtain rfl := Option.some.inj hd; exact ⟨rfl, trivial⟩)
      · intro Q ρ I1 H hI1 hk hpost
        obtain ⟨_, -⟩ := hk
        have hc := Mem.le.refl I1
        refine asg rfl rfl ?_
        refine WL.nil ?_
        exact hpost _ _ hc rfl _ (fun _ hd => by obtain rfl := Option.some.inj hd; exact ⟨rfl, trivial⟩)
      · intro Q ρ I1 H hI1 hk hpost
        obtain ⟨_, -⟩ := hk
        have hc := Mem.le.refl I1
        refine asg rfl rfl ?_
        refine WL.nil ?_
        exact hpost _ _ hc rfl _ (fun _ hd => by obtain rfl := Option.some.inj hd; exact ⟨rfl, trivial⟩)
      · intro Q ρ I1 H hI1 hk hpost
        obtain ⟨_, -⟩ := hk
        have hc := Mem.le.refl I1
        refine asg rfl rfl ?_
        refine WL.nil ?_
        exact hpost _ _ hc rfl _ (fun _ hd => by obtain rfl := Option.some.inj hd; exact ⟨rfl, trivial⟩)
      rintro ρ J74 hJ75 -
      refine WX.sub (r := [(1, (.pointer (some ⟨g1, 0, none⟩))), (3, (.bool true)), (4, (.bool (decide (p0.Kind = 3)))), (5, (.bool (decide (p0.Kind = 4))))]) ?_ ⟨rfl, rfl, rfl, rfl, trivial⟩
      refine WX.is (H := bl g1 #[(.int .i64 p0.Kind), (.int .i64 p0.Path), (.int .i64 p0.Number), (.int .i64 p0.Of), (.int .i64 p0.From), (.slice a0_5 p0.Data.length c0_5), (.bool p0.Fin), (.int .i64 p0.Seen), (.int .i64 p0.Limit)] 41 :: G) rfl ?_
      have hI := hI.trans hJ75
      have lj72 := lj72.trans hJ75
      replace hp0_5 := hp0_5.up hJ75
      exact (kj72 ⟨true, (decide (p0.Kind = 3)), (decide (p0.Kind = 4))⟩ _ lj72 (Option.some.inj hj72)).sub ⟨rfl, rfl, rfl, rfl, trivial⟩
    refine WC.drawn mo (nthL [[], [0], [0, 1], [0, 1, 2], [0, 1, 2, 3], [0, 1, 2, 3, 4], [0, 1, 2, 3, 4, 5], [0, 1, 2, 3, 4, 5, 6], [], [8], [8, 9], [], [11], [11, 12], [0, 1, 2, 3, 4, 5, 6, 7], [0, 1, 2, 3, 4, 5, 6, 7, 8, 9, 10, 14], [0, 1, 2, 3, 4, 5, 6, 7, 8, 9, 10, 11, 12, 13, 14, 15]]) (nthL [[], [0], [1], [2], [3], [3, 4], [3, 5], [3, 6], [], [8], [9], [], [11], [12], [7], [10], [13]]) (nthK [.val (.pointer (some ⟨g1, 0, none⟩)), .val (.int .i64 p0.Kind), .val (.bool (decide (p0.Kind = 2))), .val (.bool false), .val (.pointer (some ⟨g1, 0, none⟩)), .val (.int .i64 p0.Kind), .val (.bool (decide (p0.Kind = 4))), .val (.bool (decide (p0.Kind = 4))), .val (.pointer (some ⟨g1, 0, none⟩)), .val (.int .i64 p0.Kind), .val (.bool (decide (p0.Kind = 3))), .val (.pointer (some ⟨g1, 0, none⟩)), .val (.int .i64 p0.Kind), .val (.bool (decide (p0.Kind = 4))), .val (.bool (decide (p0.Kind = 4))), .val (.bool (decide (p0.Kind = 3))), .val (.bool (decide (p0.Kind = 4)))]) [⟨none, none, [1, 5, 9, 12], [], fun _ => bl g1 #[(.int .i64 p0.Kind), (.int .i64 p0.Path), (.int .i64 p0.Number), (.int .i64 p0.Of), (.int .i64 p0.From), (.slice a0_5 p0.Data.length c0_5), (.bool p0.Fin), (.int .i64 p0.Seen), (.int .i64 p0.Limit)] 41⟩] (by kernel_rfl) (by kernel_rfl) (by kernel_rfl) (H := G) rfl ⟨?_, ?_, ?_, ?_, ?_, ?_, ?_, ?_, ?_, ?_, ?_, ?_, ?_, ?_, ?_, ?_, ?_, trivial⟩ ?_
    · intro Q ρ I1 H hI1 hk hpost
      have hc := Mem.le.refl I1
      refine fa fl41_0 rfl rfl ?_
      refine WL.nil ?_
      exact hpost _ _ hc rfl _ (fun _ hd => by obtain rfl := Option.some.inj hd; exact ⟨rfl, trivial⟩)
    · intro Q ρ I1 H hI1 hk hpost
      obtain ⟨_, -⟩ := hk
      have hc := Mem.le.refl I1
      refine ld 0 na3 rfl rfl rfl rfl ?_
      refine WL.nil ?_
      exact hpost _ _ hc rfl _ (fun _ hd => by obtain rfl := Option.some.inj hd; exact ⟨rfl, trivial⟩)
    · intro Q ρ I1 H hI1 hk hpost
      obtain ⟨_, -⟩ := hk
      have hc := Mem.le.refl I1
      refine eq rfl rfl rfl ?_
      refine WL.nil ?_
      exact hpost _ _ hc rfl _ (fun _ hd => by obtain rfl := Option.some.inj hd; exact ⟨rfl, trivial⟩)
    · intro Q ρ I1 H hI1 hk hpost
      obtain ⟨_, -⟩ := hk
      have hc := Mem.le.refl I1
      refine mv rfl rfl ?_
      refine WL.nil ?_
      exact hpost _ _ hc (bF k73) _ (fun _ hd => by obtain rfl := Option.some.inj hd; exact ⟨rfl, trivial⟩)
    · intro Q ρ I1 H hI1 hk hpost
      obtain ⟨_, -⟩ := hk
      have hc := Mem.le.refl I1
      refine WL.on rfl rfl ?_
      refine fa fl41_0 rfl rfl ?_
      refine WL.nil ?_
      exact hpost _ _ hc rfl _ (fun _ hd => by obtain rfl := Option.some.inj hd; exact ⟨rfl, trivial⟩)
    · intro Q ρ I1 H hI1 hk hpost
      obtain ⟨_, _, -⟩ := hk
      have hc := Mem.le.refl I1
      refine WL.on rfl rfl ?_
      refine ld 0 na3 rfl rfl rfl rfl ?_
      refine WL.nil ?_
      exact hpost _ _ hc rfl _ (fun _ hd => by obtain rfl := Option.some.inj hd; exact ⟨rfl, trivial⟩)
    · intro Q ρ I1 H hI1 hk hpost
      obtain ⟨_, _, -⟩ := hk
      have hc := Mem.le.refl I1
      refine WL.on rfl rfl ?_
      refine eq rfl rfl rfl ?_
      refine WL.nil ?_
      exact hpost _ _ hc rfl _ (fun _ hd => by obtain rfl := Option.some.inj hd; exact ⟨rfl, trivial⟩)
    · intro Q ρ I1 H hI1 hk hpost
      obtain ⟨_, _, -⟩ := hk
      have hc := Mem.le.refl I1
      refine pkF rfl rfl rfl ?_
      refine WL.nil ?_
      exact hpost _ _ hc rfl _ (fun _ hd => by obtain rfl := Option.some.inj hd; exact ⟨rfl, trivial⟩)
    · intro Q ρ I1 H hI1 hk hpost
      have hc := Mem.le.refl I1
      refine fa fl41_0 rfl rfl ?_
      refine WL.nil ?_
      exact hpost _ _ hc rfl _ (fun _ hd => by obtain rfl := Option.some.inj hd; exact ⟨rfl, trivial⟩)
    · intro Q ρ I1 H hI1 hk hpost
      obtain ⟨_, -⟩ := hk
      have hc := Mem.le.refl I1
      refine ld 0 na3 rfl rfl rfl rfl ?_
      refine WL.nil ?_
      exact hpost _ _ hc rfl _ (fun _ hd => by obtain rfl := Option.some.inj hd; exact ⟨rfl, trivial⟩)
    · intro Q ρ I1 H hI1 hk hpost
      obtain ⟨_, -⟩ := hk
      have hc := Mem.le.refl I1
      refine eq rfl rfl rfl ?_
      refine WL.nil ?_
      exact hpost _ _ hc rfl _ (fun _ hd => by obtain rfl := Option.some.inj hd; exact ⟨rfl, trivial⟩)
    · intro Q ρ I1 H hI1 hk hpost
      have hc := Mem.le.refl I1
      refine fa fl41_0 rfl rfl ?_
      refine WL.nil ?_
      exact hpost _ _ hc rfl _ (fun _ hd => by obtain rfl := Option.some.inj hd; exact ⟨rfl, trivial⟩)
    · intro Q ρ I1 H hI1 hk hpost
      obtain ⟨_, -⟩ := hk
      have hc := Mem.le.refl I1
      refine ld 0 na3 rfl rfl rfl rfl ?_
      refine WL.nil ?_
      exact hpost _ _ hc rfl _ (fun _ hd => by obtain rfl := Option.some.inj hd; exact ⟨rfl, trivial⟩)
    · intro Q ρ I1 H hI1 hk hpost
      obtain ⟨_, -⟩ := hk
      have hc := Mem.le.refl I1
      refine eq rfl rfl rfl ?_
      refine WL.nil ?_
      exact hpost _ _ hc rfl _ (fun _ hd => by obtain rfl := Option.some.inj hd; exact ⟨rfl, trivial⟩)
    · intro Q ρ I1 H hI1 hk hpost
      obtain ⟨_, -⟩ := hk
      have hc := Mem.le.refl I1
      refine asg rfl rfl ?_
      refine WL.nil ?_
      exact hpost _ _ hc rfl _ (fun _ hd => by obtain rfl := Option.some.inj hd; exact ⟨rfl, trivial⟩)
    · intro Q ρ I1 H hI1 hk hpost
      obtain ⟨_, -⟩ := hk
      have hc := Mem.le.refl I1
      refine asg rfl rfl ?_
      refine WL.nil ?_
      exact hpost _ _ hc rfl _ (fun _ hd => by obtain rfl := Option.some.inj hd; exact ⟨rfl, trivial⟩)
    · intro Q ρ I1 H hI1 hk hpost
      obtain ⟨_, -⟩ := hk
      have hc := Mem.le.refl I1
      refine asg rfl rfl ?_
      refine WL.nil ?_
      exact hpost _ _ hc rfl _ (fun _ hd => by obtain rfl := Option.some.inj hd; exact ⟨rfl, trivial⟩)
    rintro ρ J76 hJ77 -
    refine WX.sub (r := [(1, (.pointer (some ⟨g1, 0, none⟩))), (3, (.bool (decide (p0.Kind = 4)))), (4, (.bool (decide (p0.Kind = 3)))), (5, (.bool (decide (p0.Kind = 4))))]) ?_ ⟨rfl, rfl, rfl, rfl, trivial⟩
    refine WX.is (H := bl g1 #[(.int .i64 p0.Kind), (.int .i64 p0.Path), (.int .i64 p0.Number), (.int .i64 p0.Of), (.int .i64 p0.From), (.slice a0_5 p0.Data.length c0_5), (.bool p0.Fin), (.int .i64 p0.Seen), (.int .i64 p0.Limit)] 41 :: G) rfl ?_
    have hI := hI.trans hJ77
    have lj72 := lj72.trans hJ77
    replace hp0_5 := hp0_5.up hJ77
    exact (kj72 ⟨(decide (p0.Kind = 4)), (decide (p0.Kind = 3)), (decide (p0.Kind = 4))⟩ _ lj72 (Option.some.inj hj72)).sub ⟨rfl, rfl, rfl, rfl, trivial⟩
  rintro ⟨x69, x70, x71⟩ J78 hJ79 rfl
  have hI := hI.trans hJ79
  replace hp0_5 := hp0_5.up hJ79
  refine WX.then_ ?_
  refine WC.seq ?_
  refine WC.seq ?_
  obtain ⟨j99, hj99, h⟩ := bnd h
  refine WC.joinQ (σ := Bool) (fun x98 => [(1, (.pointer (some ⟨g1, 0, none⟩))), (4, (.bool x70)), (5, (.bool x71)), (51, (.bool x98))]) (fun x98 => bl g1 #[(.int .i64 p0.Kind), (.int .i64 p0.Path), (.int .i64 p0.Number), (.int .i64 p0.Of), (.int .i64 p0.From), (.slice a0_5 p0.Data.length c0_5), (.bool p0.Fin), (.int .i64 p0.Seen), (.int .i64 p0.Limit)] 41 :: G) (fun x98 J => x98 = j99) (fun kj99 => ?_) ?_
  · skip
    have lj99 := Mem.le.refl J78
    refine WC.region ?_
    refine mv rfl rfl ?_
    refine mv rfl rfl ?_
    rcases spl hj99 with ⟨k100, hj99⟩ | ⟨k100, hj99⟩
    · skip
      refine WL.rb 37 rfl (bt1 k100) ?_
      refine WL.on rfl rfl ?_
      refine fa fl41_3 rfl rfl ?_
      refine WL.on rfl rfl ?_
      refine ld 0 na3 rfl rfl rfl rfl ?_
      refine WL.on rfl rfl ?_
      obtain ⟨x101, e102, hj99⟩ := bnd hj99
      refine call cl82 rfl rfl (W82 e102) (fun _ J103 _ hJ104 q105 => ?_)
      have hI := hI.trans hJ104
      have lj99 := lj99.trans hJ104
      replace hp0_5 := hp0_5.up hJ104
      obtain ⟨rfl, rfl⟩ := q105
      refine WL.on rfl rfl ?_
      refine nt rfl rfl ?_
      refine pkT rfl rfl rfl ?_
      refine mv rfl rfl ?_
      rcases spl hj99 with ⟨k106, hj99⟩ | ⟨k106, hj99⟩
      · skip
        refine WL.rb 43 rfl (bt1n k106) ?_
        refine WL.on rfl rfl ?_
        refine mv rfl rfl ?_
        refine WL.on rfl rfl ?_
        refine nt rfl rfl ?_
        refine WL.on rfl rfl ?_
        refine mv rfl rfl ?_
        rcases spl hj99 with ⟨k107, hj99⟩ | ⟨k107, hj99⟩
        · skip
          refine WL.rb 46 rfl (bt1n k107) ?_
          refine WL.no rfl rfl rfl rfl ?_
          refine WL.no rfl rfl rfl rfl ?_
          refine WL.no rfl rfl rfl rfl ?_
          refine WL.on rfl rfl ?_
          refine pkF rfl rfl rfl ?_
          refine pkF rfl rfl rfl ?_
          refine WL.nil ?_
          exact (kj99 false _ lj99 (Option.some.inj hj99)).sub ⟨rfl, rfl, rfl, rfl, trivial⟩
        refine WL.rb 46 rfl (bf1n k107) ?_
        refine WL.on rfl rfl ?_
        refine fa fl41_3 rfl rfl ?_
        refine WL.on rfl rfl ?_
        refine ld 0 na3 rfl rfl rfl rfl ?_
        refine WL.on rfl rfl ?_
        refine ne rfl rfl rfl ?_
        refine WL.on rfl rfl ?_
        refine pkT rfl rfl rfl ?_
        refine pkF rfl rfl rfl ?_
        refine WL.nil ?_
        exact (kj99 (decide (p0.Of ≠ 0)) _ lj99 (Option.some.inj hj99)).sub ⟨rfl, rfl, rfl, rfl, trivial⟩
      refine WL.rb 43 rfl (bf1n k106) ?_
      refine WL.no rfl rfl rfl rfl ?_
      refine WL.no rfl rfl rfl rfl ?_
      refine WL.no rfl rfl rfl rfl ?_
      refine WL.nu rfl rfl rfl ?_
      refine WL.nu rfl rfl rfl ?_
      refine WL.nu rfl rfl rfl ?_
      refine WL.no rfl rfl rfl rfl ?_
      refine pkT rfl rfl rfl ?_
      refine WL.nil ?_
      exact (kj99 true _ lj99 (Option.some.inj hj99)).sub ⟨rfl, rfl, rfl, rfl, trivial⟩
    refine WL.rb 37 rfl (bf1 k100) ?_
    refine WL.no rfl rfl rfl rfl ?_
    refine WL.no rfl rfl rfl rfl ?_
    refine WL.no rfl rfl rfl rfl ?_
    refine WL.no rfl rfl rfl rfl ?_
    refine pkF rfl rfl rfl ?_
    refine mv rfl rfl ?_
    refine WL.on rfl rfl ?_
    refine mv rfl rfl ?_
    refine WL.on rfl rfl ?_
    refine nt rfl rfl ?_
    refine WL.on rfl rfl ?_
    refine mv rfl rfl ?_
    rcases spl hj99 with ⟨k108, hj99⟩ | ⟨k108, hj99⟩
    · skip
      refine WL.rb 46 rfl (bt1n k108) ?_
      refine WL.no rfl rfl rfl rfl ?_
      refine WL.no rfl rfl rfl rfl ?_
      refine WL.no rfl rfl rfl rfl ?_
      refine WL.on rfl rfl ?_
      refine pkF rfl rfl rfl ?_
      refine pkF rfl rfl rfl ?_
      refine WL.nil ?_
      exact (kj99 false _ lj99 (Option.some.inj hj99)).sub ⟨rfl, rfl, rfl, rfl, trivial⟩
    refine WL.rb 46 rfl (bf1n k108) ?_
    refine WL.on rfl rfl ?_
    refine fa fl41_3 rfl rfl ?_
    refine WL.on rfl rfl ?_
    refine ld 0 na3 rfl rfl rfl rfl ?_
    refine WL.on rfl rfl ?_
    refine ne rfl rfl rfl ?_
    refine WL.on rfl rfl ?_
    refine pkT rfl rfl rfl ?_
    refine pkF rfl rfl rfl ?_
    refine WL.nil ?_
    exact (kj99 (decide (p0.Of ≠ 0)) _ lj99 (Option.some.inj hj99)).sub ⟨rfl, rfl, rfl, rfl, trivial⟩
  rintro x98 J109 hJ110 rfl
  have hI := hI.trans hJ110
  replace hp0_5 := hp0_5.up hJ110
  refine WX.then_ ?_
  refine WC.iteb rfl h (fun k111 h => ?_) (fun k111 h => ?_)
  · skip
    refine WC.seq ?_
    refine WC.region ?_
    refine asg rfl rfl ?_
    refine WL.del 0 ?_
    refine WL.next ?_
    refine WC.ret ?_
    refine WX.then_ret ?_
    cases h
    exact ret1 Try.results66 rfl hI ⟨rfl, rfl⟩
  refine WC.skip ?_
  refine WX.then_ ?_
  refine WC.seq ?_
  refine WC.seq ?_
  obtain ⟨j147, hj147, h⟩ := bnd h
  refine WC.joinQ (σ := Bool) (fun x146 => [(1, (.pointer (some ⟨g1, 0, none⟩))), (5, (.bool x71)), (92, (.bool x146))]) (fun x146 => bl g1 #[(.int .i64 p0.Kind), (.int .i64 p0.Path), (.int .i64 p0.Number), (.int .i64 p0.Of), (.int .i64 p0.From), (.slice a0_5 p0.Data.length c0_5), (.bool p0.Fin), (.int .i64 p0.Seen), (.int .i64 p0.Limit)] 41 :: G) (fun x146 J => x146 = j147) (fun kj147 => ?_) ?_
  · skip
    have lj147 := Mem.le.refl J109
    refine WC.region ?_
    refine mv rfl rfl ?_
    refine mv rfl rfl ?_
    rcases spl hj147 with ⟨k148, hj147⟩ | ⟨k148, hj147⟩
    · skip
      refine WL.rb 53 rfl (bt1 k148) ?_
      refine WL.on rfl rfl ?_
      refine fa fl41_4 rfl rfl ?_
      refine WL.on rfl rfl ?_
      refine ld 0 na3 rfl rfl rfl rfl ?_
      refine WL.on rfl rfl ?_
      obtain ⟨x149, e150, hj147⟩ := bnd hj147
      refine call cl82 rfl rfl (W82 e150) (fun _ J151 _ hJ152 q153 => ?_)
      have hI := hI.trans hJ152
      have lj147 := lj147.trans hJ152
      replace hp0_5 := hp0_5.up hJ152
      obtain ⟨rfl, rfl⟩ := q153
      refine WL.on rfl rfl ?_
      refine nt rfl rfl ?_
      refine WL.on rfl rfl ?_
      refine mv rfl rfl ?_
      rcases spl hj147 with ⟨k154, hj147⟩ | ⟨k154, hj147⟩
      · skip
        refine WL.rb 58 rfl (bt1n k154) ?_
        refine WL.on rfl rfl ?_
        refine fa fl41_5 rfl rfl ?_
        refine WL.on rfl rfl ?_
        refine ld 0 na22 rfl rfl rfl rfl ?_
        refine WL.on rfl rfl ?_
        refine ln et22 rfl (hp0_5.rd) rfl ?_
        refine WL.on rfl rfl ?_
        refine gt rfl rfl rfl ?_
        refine WL.on rfl rfl ?_
        refine pkF rfl rfl rfl ?_
        refine WL.on rfl rfl ?_
        refine mv rfl rfl ?_
        rcases spl hj147 with ⟨k155, hj147⟩ | ⟨k155, hj147⟩
        · skip
          refine WL.rb 64 rfl (bT k155) ?_
          refine WL.no rfl rfl rfl rfl ?_
          refine WL.no rfl rfl rfl rfl ?_
          refine WL.no rfl rfl rfl rfl ?_
          refine WL.no rfl rfl rfl rfl ?_
          refine WL.no rfl rfl rfl rfl ?_
          refine WL.no rfl rfl rfl rfl ?_
          refine WL.no rfl rfl rfl rfl ?_
          refine WL.on rfl rfl ?_
          refine pkT rfl rfl rfl ?_
          refine pkT rfl rfl rfl ?_
          refine mv rfl rfl ?_
          refine WL.no rfl rfl rfl rfl ?_
          refine WL.no rfl rfl rfl rfl ?_
          refine WL.no rfl rfl rfl rfl ?_
          refine WL.nu rfl rfl rfl ?_
          refine WL.nu rfl rfl rfl ?_
          refine WL.nu rfl rfl rfl ?_
          refine WL.nu rfl rfl rfl ?_
          refine WL.nu rfl rfl rfl ?_
          refine WL.nu rfl rfl rfl ?_
          refine WL.nu rfl rfl rfl ?_
          refine WL.nu rfl rfl rfl ?_
          refine WL.nu rfl rfl rfl ?_
          refine WL.nu rfl rfl rfl ?_
          refine WL.nu rfl rfl rfl ?_
          refine WL.nu rfl rfl rfl ?_
          refine WL.nu rfl rfl rfl ?_
          refine WL.no rfl rfl rfl rfl ?_
          refine pkT rfl rfl rfl ?_
          refine WL.nil ?_
          exact (kj147 true _ lj147 (Option.some.inj hj147)).sub ⟨rfl, rfl, rfl, trivial⟩
        refine WL.rb 64 rfl (bF k155) ?_
        refine WL.on rfl rfl ?_
        refine fa fl41_4 rfl rfl ?_
        refine WL.on rfl rfl ?_
        refine ld 0 na3 rfl rfl rfl rfl ?_
        refine WL.on rfl rfl ?_
        refine fa fl41_5 rfl rfl ?_
        refine WL.on rfl rfl ?_
        refine ld 0 na22 rfl rfl rfl rfl ?_
        refine WL.on rfl rfl ?_
        refine ln et22 rfl (hp0_5.rd) rfl ?_
        refine WL.on rfl rfl ?_
        refine ad rfl rfl rfl ?_
        obtain ⟨x156, e157, hj147⟩ := bnd hj147
        refine WL.re (congrArg (Value.int .i64) (Option.some.inj e157)) ?_
        refine WL.on rfl rfl ?_
        refine gt rfl rfl rfl ?_
        refine WL.on rfl rfl ?_
        refine pkF rfl rfl rfl ?_
        refine pkT rfl rfl rfl ?_
        refine mv rfl rfl ?_
        rcases spl hj147 with ⟨k158, hj147⟩ | ⟨k158, hj147⟩
        · skip
          refine WL.rb 74 rfl (bT k158) ?_
          refine WL.no rfl rfl rfl rfl ?_
          refine WL.no rfl rfl rfl rfl ?_
          refine WL.no rfl rfl rfl rfl ?_
          refine WL.nu rfl rfl rfl ?_
          refine WL.nu rfl rfl rfl ?_
          refine WL.nu rfl rfl rfl ?_
          refine WL.nu rfl rfl rfl ?_
          refine WL.nu rfl rfl rfl ?_
          refine WL.nu rfl rfl rfl ?_
          refine WL.nu rfl rfl rfl ?_
          refine WL.nu rfl rfl rfl ?_
          refine WL.nu rfl rfl rfl ?_
          refine WL.nu rfl rfl rfl ?_
          refine WL.nu rfl rfl rfl ?_
          refine WL.nu rfl rfl rfl ?_
          refine WL.nu rfl rfl rfl ?_
          refine WL.no rfl rfl rfl rfl ?_
          refine pkT rfl rfl rfl ?_
          refine WL.nil ?_
          exact (kj147 true _ lj147 (Option.some.inj hj147)).sub ⟨rfl, rfl, rfl, trivial⟩
        refine WL.rb 74 rfl (bF k158) ?_
        refine WL.on rfl rfl ?_
        refine mv rfl rfl ?_
        refine WL.on rfl rfl ?_
        refine nt rfl rfl ?_
        refine WL.on rfl rfl ?_
        refine mv rfl rfl ?_
        rcases spl hj147 with ⟨k159, hj147⟩ | ⟨k159, hj147⟩
        · skip
          refine WL.rb 77 rfl (bt1n k159) ?_
          refine WL.no rfl rfl rfl rfl ?_
          refine WL.no rfl rfl rfl rfl ?_
          refine WL.no rfl rfl rfl rfl ?_
          refine WL.no rfl rfl rfl rfl ?_
          refine WL.nu rfl rfl rfl ?_
          refine WL.nu rfl rfl rfl ?_
          refine WL.nu rfl rfl rfl ?_
          refine WL.nu rfl rfl rfl ?_
          refine WL.no rfl rfl rfl rfl ?_
          refine WL.no rfl rfl rfl rfl ?_
          refine WL.nu rfl rfl rfl ?_
          refine WL.nu rfl rfl rfl ?_
          refine WL.no rfl rfl rfl rfl ?_
          refine WL.on rfl rfl ?_
          refine pkF rfl rfl rfl ?_
          refine pkF rfl rfl rfl ?_
          refine WL.nil ?_
          exact (kj147 false _ lj147 (Option.some.inj hj147)).sub ⟨rfl, rfl, rfl, trivial⟩
        refine WL.rb 77 rfl (bf1n k159) ?_
        refine WL.on rfl rfl ?_
        refine fa fl41_4 rfl rfl ?_
        refine WL.on rfl rfl ?_
        refine ld 0 na3 rfl rfl rfl rfl ?_
        refine WL.on rfl rfl ?_
        refine ne rfl rfl rfl ?_
        refine WL.on rfl rfl ?_
        refine mv rfl rfl ?_
        rcases spl hj147 with ⟨k160, hj147⟩ | ⟨k160, hj147⟩
        · skip
          refine WL.rb 81 rfl (bT k160) ?_
          refine WL.no rfl rfl rfl rfl ?_
          refine WL.no rfl rfl rfl rfl ?_
          refine WL.no rfl rfl rfl rfl ?_
          refine WL.no rfl rfl rfl rfl ?_
          refine WL.on rfl rfl ?_
          refine pkT rfl rfl rfl ?_
          refine WL.on rfl rfl ?_
          refine mv rfl rfl ?_
          refine WL.no rfl rfl rfl rfl ?_
          refine WL.no rfl rfl rfl rfl ?_
          refine WL.on rfl rfl ?_
          refine pkT rfl rfl rfl ?_
          refine WL.on rfl rfl ?_
          refine pkT rfl rfl rfl ?_
          refine pkF rfl rfl rfl ?_
          refine WL.nil ?_
          exact (kj147 true _ lj147 (Option.some.inj hj147)).sub ⟨rfl, rfl, rfl, trivial⟩
        refine WL.rb 81 rfl (bF k160) ?_
        refine WL.on rfl rfl ?_
        refine fa fl41_5 rfl rfl ?_
        refine WL.on rfl rfl ?_
        refine ld 0 na22 rfl rfl rfl rfl ?_
        refine WL.on rfl rfl ?_
        refine ln et22 rfl (hp0_5.rd) rfl ?_
        refine WL.on rfl rfl ?_
        refine gt rfl rfl rfl ?_
        refine WL.on rfl rfl ?_
        refine pkF rfl rfl rfl ?_
        refine WL.on rfl rfl ?_
        refine mv rfl rfl ?_
        rcases spl hj147 with ⟨k161, hj147⟩ | ⟨k161, hj147⟩
        · skip
          refine WL.rb 87 rfl (bT k161) ?_
          refine WL.no rfl rfl rfl rfl ?_
          refine WL.no rfl rfl rfl rfl ?_
          refine WL.on rfl rfl ?_
          refine pkT rfl rfl rfl ?_
          refine WL.on rfl rfl ?_
          refine pkT rfl rfl rfl ?_
          refine pkF rfl rfl rfl ?_
          refine WL.nil ?_
          exact (kj147 true _ lj147 (Option.some.inj hj147)).sub ⟨rfl, rfl, rfl, trivial⟩
        refine WL.rb 87 rfl (bF k161) ?_
        refine WL.on rfl rfl ?_
        refine fa fl41_6 rfl rfl ?_
        refine WL.on rfl rfl ?_
        refine ld 0 na4 rfl rfl rfl rfl ?_
        refine WL.on rfl rfl ?_
        refine pkF rfl rfl rfl ?_
        refine WL.on rfl rfl ?_
        refine pkT rfl rfl rfl ?_
        refine pkF rfl rfl rfl ?_
        refine WL.nil ?_
        exact (kj147 p0.Fin _ lj147 (Option.some.inj hj147)).sub ⟨rfl, rfl, rfl, trivial⟩
      refine WL.rb 58 rfl (bf1n k154) ?_
      refine WL.no rfl rfl rfl rfl ?_
      refine WL.no rfl rfl rfl rfl ?_
      refine WL.no rfl rfl rfl rfl ?_
      refine WL.no rfl rfl rfl rfl ?_
      refine WL.on rfl rfl ?_
      refine pkT rfl rfl rfl ?_
      refine WL.on rfl rfl ?_
      refine mv rfl rfl ?_
      refine WL.no rfl rfl rfl rfl ?_
      refine WL.no rfl rfl rfl rfl ?_
      refine WL.no rfl rfl rfl rfl ?_
      refine WL.no rfl rfl rfl rfl ?_
      refine WL.no rfl rfl rfl rfl ?_
      refine WL.no rfl rfl rfl rfl ?_
      refine WL.no rfl rfl rfl rfl ?_
      refine WL.on rfl rfl ?_
      refine pkT rfl rfl rfl ?_
      refine pkT rfl rfl rfl ?_
      refine mv rfl rfl ?_
      refine WL.no rfl rfl rfl rfl ?_
      refine WL.no rfl rfl rfl rfl ?_
      refine WL.no rfl rfl rfl rfl ?_
      refine WL.nu rfl rfl rfl ?_
      refine WL.nu rfl rfl rfl ?_
      refine WL.nu rfl rfl rfl ?_
      refine WL.nu rfl rfl rfl ?_
      refine WL.nu rfl rfl rfl ?_
      refine WL.nu rfl rfl rfl ?_
      refine WL.nu rfl rfl rfl ?_
      refine WL.nu rfl rfl rfl ?_
      refine WL.nu rfl rfl rfl ?_
      refine WL.nu rfl rfl rfl ?_
      refine WL.nu rfl rfl rfl ?_
      refine WL.nu rfl rfl rfl ?_
      refine WL.nu rfl rfl rfl ?_
      refine WL.no rfl rfl rfl rfl ?_
      refine pkT rfl rfl rfl ?_
      refine WL.nil ?_
      exact (kj147 true _ lj147 (Option.some.inj hj147)).sub ⟨rfl, rfl, rfl, trivial⟩
    refine WL.rb 53 rfl (bf1 k148) ?_
    refine WL.no rfl rfl rfl rfl ?_
    refine WL.no rfl rfl rfl rfl ?_
    refine WL.no rfl rfl rfl rfl ?_
    refine WL.no rfl rfl rfl rfl ?_
    refine WL.no rfl rfl rfl rfl ?_
    refine WL.nu rfl rfl rfl ?_
    refine WL.nu rfl rfl rfl ?_
    refine WL.nu rfl rfl rfl ?_
    refine WL.nu rfl rfl rfl ?_
    refine WL.no rfl rfl rfl rfl ?_
    refine WL.no rfl rfl rfl rfl ?_
    refine WL.nu rfl rfl rfl ?_
    refine WL.nu rfl rfl rfl ?_
    refine WL.nu rfl rfl rfl ?_
    refine WL.nu rfl rfl rfl ?_
    refine WL.nu rfl rfl rfl ?_
    refine WL.nu rfl rfl rfl ?_
    refine WL.nu rfl rfl rfl ?_
    refine WL.no rfl rfl rfl rfl ?_
    refine pkF rfl rfl rfl ?_
    refine mv rfl rfl ?_
    refine WL.on rfl rfl ?_
    refine mv rfl rfl ?_
    refine WL.on rfl rfl ?_
    refine nt rfl rfl ?_
    refine WL.on rfl rfl ?_
    refine mv rfl rfl ?_
    rcases spl hj147 with ⟨k162, hj147⟩ | ⟨k162, hj147⟩
    · skip
      refine WL.rb 77 rfl (bt1n k162) ?_
      refine WL.no rfl rfl rfl rfl ?_
      refine WL.no rfl rfl rfl rfl ?_
      refine WL.no rfl rfl rfl rfl ?_
      refine WL.no rfl rfl rfl rfl ?_
      refine WL.nu rfl rfl rfl ?_
      refine WL.nu rfl rfl rfl ?_
      refine WL.nu rfl rfl rfl ?_
      refine WL.nu rfl rfl rfl ?_
      refine WL.no rfl rfl rfl rfl ?_
      refine WL.no rfl rfl rfl rfl ?_
      refine WL.nu rfl rfl rfl ?_
      refine WL.nu rfl rfl rfl ?_
      refine WL.no rfl rfl rfl rfl ?_
      refine WL.on rfl rfl ?_
      refine pkF rfl rfl rfl ?_
      refine pkF rfl rfl rfl ?_
      refine WL.nil ?_
      exact (kj147 false _ lj147 (Option.some.inj hj147)).sub ⟨rfl, rfl, rfl, trivial⟩
    refine WL.rb 77 rfl (bf1n k162) ?_
    refine WL.on rfl rfl ?_
    refine fa fl41_4 rfl rfl ?_
    refine WL.on rfl rfl ?_
    refine ld 0 na3 rfl rfl rfl rfl ?_
    refine WL.on rfl rfl ?_
    refine ne rfl rfl rfl ?_
    refine WL.on rfl rfl ?_
    refine mv rfl rfl ?_
    rcases spl hj147 with ⟨k163, hj147⟩ | ⟨k163, hj147⟩
    · skip
      refine WL.rb 81 rfl (bT k163) ?_
      refine WL.no rfl rfl rfl rfl ?_
      refine WL.no rfl rfl rfl rfl ?_
      refine WL.no rfl rfl rfl rfl ?_
      refine WL.no rfl rfl rfl rfl ?_
      refine WL.on rfl rfl ?_
      refine pkT rfl rfl rfl ?_
      refine WL.on rfl rfl ?_
      refine mv rfl rfl ?_
      refine WL.no rfl rfl rfl rfl ?_
      refine WL.no rfl rfl rfl rfl ?_
      refine WL.on rfl rfl ?_
      refine pkT rfl rfl rfl ?_
      refine WL.on rfl rfl ?_
      refine pkT rfl rfl rfl ?_
      refine pkF rfl rfl rfl ?_
      refine WL.nil ?_
      exact (kj147 true _ lj147 (Option.some.inj hj147)).sub ⟨rfl, rfl, rfl, trivial⟩
    refine WL.rb 81 rfl (bF k163) ?_
    refine WL.on rfl rfl ?_
    refine fa fl41_5 rfl rfl ?_
    refine WL.on rfl rfl ?_
    refine ld 0 na22 rfl rfl rfl rfl ?_
    refine WL.on rfl rfl ?_
    refine ln et22 rfl (hp0_5.rd) rfl ?_
    refine WL.on rfl rfl ?_
    refine gt rfl rfl rfl ?_
    refine WL.on rfl rfl ?_
    refine pkF rfl rfl rfl ?_
    refine WL.on rfl rfl ?_
    refine mv rfl rfl ?_
    rcases spl hj147 with ⟨k164, hj147⟩ | ⟨k164, hj147⟩
    · skip
      refine WL.rb 87 rfl (bT k164) ?_
      refine WL.no rfl rfl rfl rfl ?_
      refine WL.no rfl rfl rfl rfl ?_
      refine WL.on rfl rfl ?_
      refine pkT rfl rfl rfl ?_
      refine WL.on rfl rfl ?_
      refine pkT rfl rfl rfl ?_
      refine pkF rfl rfl rfl ?_
      refine WL.nil ?_
      exact (kj147 true _ lj147 (Option.some.inj hj147)).sub ⟨rfl, rfl, rfl, trivial⟩
    refine WL.rb 87 rfl (bF k164) ?_
    refine WL.on rfl rfl ?_
    refine fa fl41_6 rfl rfl ?_
    refine WL.on rfl rfl ?_
    refine ld 0 na4 rfl rfl rfl rfl ?_
    refine WL.on rfl rfl ?_
    refine pkF rfl rfl rfl ?_
    refine WL.on rfl rfl ?_
    refine pkT rfl rfl rfl ?_
    refine pkF rfl rfl rfl ?_
    refine WL.nil ?_
    exact (kj147 p0.Fin _ lj147 (Option.some.inj hj147)).sub ⟨rfl, rfl, rfl, trivial⟩
  rintro x146 J165 hJ166 rfl
  have hI := hI.trans hJ166
  replace hp0_5 := hp0_5.up hJ166
  refine WX.then_ ?_
  refine WC.iteb rfl h (fun k167 h => ?_) (fun k167 h => ?_)
  · skip
    refine WC.seq ?_
    refine WC.region ?_
    refine asg rfl rfl ?_
    refine WL.del 0 ?_
    refine WL.next ?_
    refine WC.ret ?_
    refine WX.then_ret ?_
    cases h
    exact ret1 Try.results66 rfl hI ⟨rfl, rfl⟩
  refine WC.skip ?_
  refine WX.then_ ?_
  refine WC.seq ?_
  refine WC.region ?_
  refine mv rfl rfl ?_
  refine mv rfl rfl ?_
  rcases spl h with ⟨k168, h⟩ | ⟨k168, h⟩
  · skip
    refine WL.rb 94 rfl (bt1 k168) ?_
    refine WL.on rfl rfl ?_
    refine fa fl41_7 rfl rfl ?_
    refine WL.on rfl rfl ?_
    refine ld 0 na3 rfl rfl rfl rfl ?_
    refine WL.on rfl rfl ?_
    obtain ⟨x169, e170, h⟩ := bnd h
    refine call cl82 rfl rfl (W82 e170) (fun _ J171 _ hJ172 q173 => ?_)
    have hI := hI.trans hJ172
    replace hp0_5 := hp0_5.up hJ172
    obtain ⟨rfl, rfl⟩ := q173
    refine pkT rfl rfl rfl ?_
    refine mv rfl rfl ?_
    rcases spl h with ⟨k174, h⟩ | ⟨k174, h⟩
    · skip
      refine WL.rb 99 rfl (bt1 k174) ?_
      refine WL.on rfl rfl ?_
      refine fa fl41_8 rfl rfl ?_
      refine WL.on rfl rfl ?_
      refine ld 0 na3 rfl rfl rfl rfl ?_
      refine WL.on rfl rfl ?_
      obtain ⟨x175, e176, h⟩ := bnd h
      refine call cl82 rfl rfl (W82 e176) (fun _ J177 _ hJ178 q179 => ?_)
      have hI := hI.trans hJ178
      replace hp0_5 := hp0_5.up hJ178
      obtain ⟨rfl, rfl⟩ := q179
      refine pkT rfl rfl rfl ?_
      refine mv rfl rfl ?_
      rcases spl h with ⟨k180, h⟩ | ⟨k180, h⟩
      · skip
        refine WL.rb 104 rfl (bt1 k180) ?_
        refine WL.no rfl rfl rfl rfl ?_
        refine WL.no rfl rfl rfl rfl ?_
        refine WL.no rfl rfl rfl rfl ?_
        refine WL.nu rfl rfl rfl ?_
        refine WL.nu rfl rfl rfl ?_
        refine WL.nu rfl rfl rfl ?_
        refine WL.no rfl rfl rfl rfl ?_
        refine WL.no rfl rfl rfl rfl ?_
        refine WL.nu rfl rfl rfl ?_
        refine WL.nu rfl rfl rfl ?_
        refine WL.nu rfl rfl rfl ?_
        refine WL.no rfl rfl rfl rfl ?_
        refine pkT rfl rfl rfl ?_
        refine asg rfl rfl ?_
        refine WL.del 0 ?_
        refine WL.next ?_
        refine WC.ret ?_
        cases h
        exact ret1 Try.results66 rfl hI ⟨rfl, rfl⟩
      refine WL.rb 104 rfl (bf1 k180) ?_
      refine WL.on rfl rfl ?_
      refine mv rfl rfl ?_
      refine WL.on rfl rfl ?_
      refine nt rfl rfl ?_
      refine WL.on rfl rfl ?_
      refine mv rfl rfl ?_
      rcases spl h with ⟨k181, h⟩ | ⟨k181, h⟩
      · skip
        refine WL.rb 107 rfl (bt1n k181) ?_
        refine WL.no rfl rfl rfl rfl ?_
        refine WL.no rfl rfl rfl rfl ?_
        refine WL.no rfl rfl rfl rfl ?_
        refine WL.on rfl rfl ?_
        refine pkF rfl rfl rfl ?_
        refine WL.on rfl rfl ?_
        refine mv rfl rfl ?_
        refine WL.no rfl rfl rfl rfl ?_
        refine WL.no rfl rfl rfl rfl ?_
        refine WL.no rfl rfl rfl rfl ?_
        refine WL.on rfl rfl ?_
        refine pkF rfl rfl rfl ?_
        refine pkF rfl rfl rfl ?_
        refine asg rfl rfl ?_
        refine WL.del 0 ?_
        refine WL.next ?_
        refine WC.ret ?_
        cases h
        exact ret1 Try.results66 rfl hI ⟨rfl, rfl⟩
      refine WL.rb 107 rfl (bf1n k181) ?_
      refine WL.on rfl rfl ?_
      refine fa fl41_7 rfl rfl ?_
      refine WL.on rfl rfl ?_
      refine ld 0 na3 rfl rfl rfl rfl ?_
      refine WL.on rfl rfl ?_
      refine eq rfl rfl rfl ?_
      refine WL.on rfl rfl ?_
      refine pkT rfl rfl rfl ?_
      refine WL.on rfl rfl ?_
      refine mv rfl rfl ?_
      rcases spl h with ⟨k182, h⟩ | ⟨k182, h⟩
      · skip
        refine WL.rb 112 rfl (bT k182) ?_
        refine WL.on rfl rfl ?_
        refine fa fl41_8 rfl rfl ?_
        refine WL.on rfl rfl ?_
        refine ld 0 na3 rfl rfl rfl rfl ?_
        refine WL.on rfl rfl ?_
        refine eq rfl rfl rfl ?_
        refine WL.on rfl rfl ?_
        refine pkT rfl rfl rfl ?_
        refine pkF rfl rfl rfl ?_
        refine asg rfl rfl ?_
        refine WL.del 0 ?_
        refine WL.next ?_
        refine WC.ret ?_
        cases h
        exact ret1 Try.results66 rfl hI ⟨rfl, rfl⟩
      refine WL.rb 112 rfl (bF k182) ?_
      refine WL.no rfl rfl rfl rfl ?_
      refine WL.no rfl rfl rfl rfl ?_
      refine WL.no rfl rfl rfl rfl ?_
      refine WL.on rfl rfl ?_
      refine pkF rfl rfl rfl ?_
      refine pkF rfl rfl rfl ?_
      refine asg rfl rfl ?_
      refine WL.del 0 ?_
      refine WL.next ?_
      refine WC.ret ?_
      cases h
      exact ret1 Try.results66 rfl hI ⟨rfl, rfl⟩
    refine WL.rb 99 rfl (bf1 k174) ?_
    refine WL.no rfl rfl rfl rfl ?_
    refine WL.no rfl rfl rfl rfl ?_
    refine WL.no rfl rfl rfl rfl ?_
    refine pkF rfl rfl rfl ?_
    refine mv rfl rfl ?_
    refine WL.on rfl rfl ?_
    refine mv rfl rfl ?_
    refine WL.on rfl rfl ?_
    refine nt rfl rfl ?_
    refine WL.on rfl rfl ?_
    refine mv rfl rfl ?_
    rcases spl h with ⟨k183, h⟩ | ⟨k183, h⟩
    · skip
      refine WL.rb 107 rfl (bt1n k183) ?_
      refine WL.no rfl rfl rfl rfl ?_
      refine WL.no rfl rfl rfl rfl ?_
      refine WL.no rfl rfl rfl rfl ?_
      refine WL.on rfl rfl ?_
      refine pkF rfl rfl rfl ?_
      refine WL.on rfl rfl ?_
      refine mv rfl rfl ?_
      refine WL.no rfl rfl rfl rfl ?_
      refine WL.no rfl rfl rfl rfl ?_
      refine WL.no rfl rfl rfl rfl ?_
      refine WL.on rfl rfl ?_
      refine pkF rfl rfl rfl ?_
      refine pkF rfl rfl rfl ?_
      refine asg rfl rfl ?_
      refine WL.del 0 ?_
      refine WL.next ?_
      refine WC.ret ?_
      cases h
      exact ret1 Try.results66 rfl hI ⟨rfl, rfl⟩
    refine WL.rb 107 rfl (bf1n k183) ?_
    refine WL.on rfl rfl ?_
    refine fa fl41_7 rfl rfl ?_
    refine WL.on rfl rfl ?_
    refine ld 0 na3 rfl rfl rfl rfl ?_
    refine WL.on rfl rfl ?_
    refine eq rfl rfl rfl ?_
    refine WL.on rfl rfl ?_
    refine pkT rfl rfl rfl ?_
    refine WL.on rfl rfl ?_
    refine mv rfl rfl ?_
    rcases spl h with ⟨k184, h⟩ | ⟨k184, h⟩
    · skip
      refine WL.rb 112 rfl (bT k184) ?_
      refine WL.on rfl rfl ?_
      refine fa fl41_8 rfl rfl ?_
      refine WL.on rfl rfl ?_
      refine ld 0 na3 rfl rfl rfl rfl ?_
      refine WL.on rfl rfl ?_
      refine eq rfl rfl rfl ?_
      refine WL.on rfl rfl ?_
      refine pkT rfl rfl rfl ?_
      refine pkF rfl rfl rfl ?_
      refine asg rfl rfl ?_
      refine WL.del 0 ?_
      refine WL.next ?_
      refine WC.ret ?_
      cases h
      exact ret1 Try.results66 rfl hI ⟨rfl, rfl⟩
    refine WL.rb 112 rfl (bF k184) ?_
    refine WL.no rfl rfl rfl rfl ?_
    refine WL.no rfl rfl rfl rfl ?_
    refine WL.no rfl rfl rfl rfl ?_
    refine WL.on rfl rfl ?_
    refine pkF rfl rfl rfl ?_
    refine pkF rfl rfl rfl ?_
    refine asg rfl rfl ?_
    refine WL.del 0 ?_
    refine WL.next ?_
    refine WC.ret ?_
    cases h
    exact ret1 Try.results66 rfl hI ⟨rfl, rfl⟩
  refine WL.rb 94 rfl (bf1 k168) ?_
  refine WL.no rfl rfl rfl rfl ?_
  refine WL.no rfl rfl rfl rfl ?_
  refine WL.no rfl rfl rfl rfl ?_
  refine pkF rfl rfl rfl ?_
  refine mv rfl rfl ?_
  refine WL.no rfl rfl rfl rfl ?_
  refine WL.no rfl rfl rfl rfl ?_
  refine WL.no rfl rfl rfl rfl ?_
  refine pkF rfl rfl rfl ?_
  refine mv rfl rfl ?_
  refine WL.on rfl rfl ?_
  refine mv rfl rfl ?_
  refine WL.on rfl rfl ?_
  refine nt rfl rfl ?_
  refine WL.on rfl rfl ?_
  refine mv rfl rfl ?_
  rcases spl h with ⟨k185, h⟩ | ⟨k185, h⟩
  · skip
    refine WL.rb 107 rfl (bt1n k185) ?_
    refine WL.no rfl rfl rfl rfl ?_
    refine WL.no rfl rfl rfl rfl ?_
    refine WL.no rfl rfl rfl rfl ?_
    refine WL.on rfl rfl ?_
    refine pkF rfl rfl rfl ?_
    refine WL.on rfl rfl ?_
    refine mv rfl rfl ?_
    refine WL.no rfl rfl rfl rfl ?_
    refine WL.no rfl rfl rfl rfl ?_
    refine WL.no rfl rfl rfl rfl ?_
    refine WL.on rfl rfl ?_
    refine pkF rfl rfl rfl ?_
    refine pkF rfl rfl rfl ?_
    refine asg rfl rfl ?_
    refine WL.del 0 ?_
    refine WL.next ?_
    refine WC.ret ?_
    cases h
    exact ret1 Try.results66 rfl hI ⟨rfl, rfl⟩
  refine WL.rb 107 rfl (bf1n k185) ?_
  refine WL.on rfl rfl ?_
  refine fa fl41_7 rfl rfl ?_
  refine WL.on rfl rfl ?_
  refine ld 0 na3 rfl rfl rfl rfl ?_
  refine WL.on rfl rfl ?_
  refine eq rfl rfl rfl ?_
  refine WL.on rfl rfl ?_
  refine pkT rfl rfl rfl ?_
  refine WL.on rfl rfl ?_
  refine mv rfl rfl ?_
  rcases spl h with ⟨k186, h⟩ | ⟨k186, h⟩
  · skip
    refine WL.rb 112 rfl (bT k186) ?_
    refine WL.on rfl rfl ?_
    refine fa fl41_8 rfl rfl ?_
    refine WL.on rfl rfl ?_
    refine ld 0 na3 rfl rfl rfl rfl ?_
    refine WL.on rfl rfl ?_
    refine eq rfl rfl rfl ?_
    refine WL.on rfl rfl ?_
    refine pkT rfl rfl rfl ?_
    refine pkF rfl rfl rfl ?_
    refine asg rfl rfl ?_
    refine WL.del 0 ?_
    refine WL.next ?_
    refine WC.ret ?_
    cases h
    exact ret1 Try.results66 rfl hI ⟨rfl, rfl⟩
  refine WL.rb 112 rfl (bF k186) ?_
  refine WL.no rfl rfl rfl rfl ?_
  refine WL.no rfl rfl rfl rfl ?_
  refine WL.no rfl rfl rfl rfl ?_
  refine WL.on rfl rfl ?_
  refine pkF rfl rfl rfl ?_
  refine pkF rfl rfl rfl ?_
  refine asg rfl rfl ?_
  refine WL.del 0 ?_
  refine WL.next ?_
  refine WC.ret ?_
  cases h
  exact ret1 Try.results66 rfl hI ⟨rfl, rfl⟩
theorem W72 {I : Mem} {G : List Asn} {p0 : Int} {r : Int} (h : haulierref01_Size p0 = some r) :
    CallsS Try.prog 72 #[.int .i64 p0] I (G) (fun v J G' => v = .int .i64 r ∧ G = G') := by
  refine CallsS.enter Try.func72 rfl Try.ntmps72 rfl (fun w0 => ?_)
  have hI := Mem.le.refl I
  unfold haulierref01_Size at h
  refine WC.seq ?_
  refine WC.region ?_
  refine asg rfl rfl ?_
  refine WL.next ?_
  refine WC.seq ?_
  refine WC.block ?_
  refine WC.seq ?_
  refine WC.region ?_
  refine mv rfl rfl ?_
  refine lt rfl rfl rfl ?_
  refine mv rfl rfl ?_
  rcases spl h with ⟨k1, h⟩ | ⟨k1, h⟩
  · skip
    refine WL.rb 6 rfl (bT k1) ?_
    refine WL.no rfl rfl rfl rfl ?_
    refine WL.no rfl rfl rfl rfl ?_
    refine pkT rfl rfl rfl ?_
    refine asg rfl rfl ?_
    refine WL.next ?_
    refine WC.cond rfl (fun _ => ?_) (fun k => by cases k)
    refine WC.seq ?_
    refine WC.region ?_
    refine asg rfl rfl ?_
    refine WL.next ?_
    refine WC.ret ?_
    refine WX.block_ret ?_
    refine WX.then_ret ?_
    cases h
    exact ret1 Try.results72 rfl hI ⟨rfl, rfl⟩
  refine WL.rb 6 rfl (bF k1) ?_
  refine WL.on rfl rfl ?_
  refine mv rfl rfl ?_
  refine WL.on rfl rfl ?_
  refine gt rfl rfl rfl ?_
  refine pkF rfl rfl rfl ?_
  refine asg rfl rfl ?_
  refine WL.next ?_
  refine WC.ite rfl h (fun k2 h => ?_) (fun k2 h => ?_)
  · skip
    refine WC.seq ?_
    refine WC.region ?_
    refine asg rfl rfl ?_
    refine WL.next ?_
    refine WC.ret ?_
    refine WX.block_ret ?_
    refine WX.then_ret ?_
    cases h
    exact ret1 Try.results72 rfl hI ⟨rfl, rfl⟩
  refine WC.seq ?_
  refine WC.region ?_
  refine mv rfl rfl ?_
  refine lt rfl rfl rfl ?_
  refine asg rfl rfl ?_
  refine WL.next ?_
  refine WC.ite rfl h (fun k3 h => ?_) (fun k3 h => ?_)
  · skip
    refine WC.seq ?_
    refine WC.region ?_
    refine asg rfl rfl ?_
    refine WL.next ?_
    refine WC.ret ?_
    refine WX.block_ret ?_
    refine WX.then_ret ?_
    cases h
    exact ret1 Try.results72 rfl hI ⟨rfl, rfl⟩
  refine WC.seq ?_
  refine WC.region ?_
  refine mv rfl rfl ?_
  refine lt rfl rfl rfl ?_
  refine asg rfl rfl ?_
  refine WL.next ?_
  refine WC.ite rfl h (fun k4 h => ?_) (fun k4 h => ?_)
  · skip
    refine WC.seq ?_
    refine WC.region ?_
    refine asg rfl rfl ?_
    refine WL.next ?_
    refine WC.ret ?_
    refine WX.block_ret ?_
    refine WX.then_ret ?_
    cases h
    exact ret1 Try.results72 rfl hI ⟨rfl, rfl⟩
  refine WC.seq ?_
  refine WC.region ?_
  refine mv rfl rfl ?_
  refine lt rfl rfl rfl ?_
  refine asg rfl rfl ?_
  refine WL.next ?_
  refine WC.ite rfl h (fun k5 h => ?_) (fun k5 h => ?_)
  · skip
    refine WC.seq ?_
    refine WC.region ?_
    refine asg rfl rfl ?_
    refine WL.next ?_
    refine WC.ret ?_
    refine WX.block_ret ?_
    refine WX.then_ret ?_
    cases h
    exact ret1 Try.results72 rfl hI ⟨rfl, rfl⟩
  refine WC.skip ?_
  refine WX.block_normal ?_
  refine WX.then_ ?_
  refine WC.seq ?_
  refine WC.region ?_
  refine asg rfl rfl ?_
  refine WL.next ?_
  refine WC.ret ?_
  cases h
  exact ret1 Try.results72 rfl hI ⟨rfl, rfl⟩
theorem W67 {I : Mem} {G : List Asn} {p0 : Int} {r : (List UInt8)} (h : haulierref01_Put p0 = some r) :
    CallsS Try.prog 67 #[.int .i64 p0] I (G) (fun v J G' => ∃ ra0 rc0, v = .slice ra0 r.length rc0 ∧ OV 5 (.slice ra0 r.length rc0) r :: G = G') := by
  refine CallsS.enter Try.func67 rfl Try.ntmps67 rfl (fun w0 => ?_)
  have hI := Mem.le.refl I
  unfold haulierref01_Put at h
  refine WC.seq ?_
  refine WC.region ?_
  refine asg rfl rfl ?_
  refine WL.next ?_
  refine WC.seq ?_
  refine WC.region ?_
  refine mv rfl rfl ?_
  obtain ⟨x1, e2, h⟩ := bnd h
  refine call cl72 rfl rfl (W72 e2) (fun _ J3 _ hJ4 q5 => ?_)
  have hI := hI.trans hJ4
  obtain ⟨rfl, rfl⟩ := q5
  refine asg rfl rfl ?_
  refine WL.next ?_
  refine WC.seq ?_
  refine WC.region ?_
  refine asg rfl rfl ?_
  refine WL.next ?_
  refine WC.seq ?_
  refine WC.seq ?_
  refine WC.region ?_
  refine mv rfl rfl ?_
  refine su rfl rfl rfl ?_
  refine asg rfl rfl ?_
  refine WL.next ?_
  obtain ⟨j37, hj37, h⟩ := bnd h
  refine WC.joinQ (σ := (List UInt8) × (Option Addr) × Nat) (fun (x32, a33, c34) => [(3, (.int .i64 x1)), (4, (.slice a33 x32.length c34))]) (fun (x32, a33, c34) => OV 5 (.slice a33 x32.length c34) x32 :: G) (fun (x32, a33, c34) J => x32 = j37) (fun kj37 => ?_) ?_
  · skip
    have lj37 := Mem.le.refl J3
    refine WC.block ?_
    refine WC.own_nil UInt8 5 ?_
    refine WC.loop (σ := (List UInt8) × Int × (Option Addr) × Nat) (fun k (x39, x42, a40, c41) => haulierref01_Put_l0 p0 k x39 x42) _ (fun (x39, x42, a40, c41) => [(0, (.int .i64 p0)), (3, (.int .i64 x1)), (4, (.slice a40 x39.length c41)), (5, (.int .i64 x42))]) (fun (x39, x42, a40, c41) => OV 5 (.slice a40 x39.length c41) x39 :: G) (fun (x39, x42, a40, c41) J => True) (fun ⟨x39, x42, a40, c41⟩ => rfl) bigN ⟨([] : List UInt8), w64 (x1 - 1), _, _⟩ hj37 trivial ⟨rfl, rfl, rfl, rfl, trivial⟩ rfl ?_
    rintro k0 ih0 ⟨x39, x42, a40, c41⟩ J53 hJ54 - hj37
    change haulierref01_Put_l0 p0 (k0 + 1) x39 x42 = _ at hj37
    rw [haulierref01_Put_l0] at hj37
    have hI := hI.trans hJ54
    have lj37 := lj37.trans hJ54
    have ll0 := hJ54
    refine WC.seq ?_
    refine WC.seq ?_
    refine WC.region ?_
    refine mv rfl rfl ?_
    refine ge rfl rfl rfl ?_
    refine WL.next ?_
    refine WC.ite rfl hj37 (fun k55 hj37 => ?_) (fun k55 hj37 => ?_)
    · skip
      refine WC.skip ?_
      refine WX.then_ ?_
      refine WC.seq ?_
      refine WC.block ?_
      refine WC.region ?_
      refine mv rfl rfl ?_
      refine mv rfl rfl ?_
      refine mv rfl rfl ?_
      refine mu rfl rfl rfl ?_
      refine cv64 Try.underlying3 Try.underlying62 rfl rfl ?_
      refine sr (Int.natCast_nonneg _) rfl rfl rfl ?_
      obtain ⟨x56, e57, hj37⟩ := bnd hj37
      refine WL.re (congrArg (Value.int .i64) (Option.some.inj e57)) ?_
      refine cv8 Try.underlying3 Try.underlying5 rfl rfl ?_
      refine bs (os := [.tmp 20]) (xs := ([(u8of x56)] : List UInt8)) et22 rfl rfl ⟨(Rv.of_u8 _ (u8of x56)), trivial⟩ rfl rfl rfl rfl (fun a58 c59 => ?_)
      refine WL.front 1 ?_
      obtain ⟨k61, hj37⟩ := chk hj37
      refine ap et22 rfl rfl ((OV.rd 1 rfl)) k61 rfl (fun a62 c63 => ?_)
      refine asg rfl rfl ?_
      refine WL.del 1 ?_
      refine WL.nil ?_
      refine WX.block_normal ?_
      refine WX.then_ ?_
      refine WC.region ?_
      refine mv rfl rfl ?_
      refine su rfl rfl rfl ?_
      refine asg rfl rfl ?_
      refine WL.nil ?_
      refine WX.round ?_
      exact (ih0 ⟨(x39 ++ ([(u8of x56)] : List UInt8)), w64 (x42 - 1), _, _⟩ _ ll0 trivial hj37).sub ⟨rfl, rfl, rfl, rfl, trivial⟩
    refine WC.exit ?_
    refine WX.then_exit ?_
    refine WX.then_exit ?_
    refine WX.block_here ?_
    exact (kj37 ⟨x39, _, _⟩ _ lj37 (Option.some.inj hj37)).sub ⟨rfl, rfl, trivial⟩
  rintro ⟨x32, a33, c34⟩ J64 hJ65 rfl
  have hI := hI.trans hJ65
  refine WX.then_ ?_
  refine WC.seq ?_
  refine WC.seq ?_
  refine WC.region ?_
  refine mv rfl rfl ?_
  refine gt rfl rfl rfl ?_
  refine WL.next ?_
  refine WC.ite rfl h (fun k66 h => ?_) (fun k66 h => ?_)
  · skip
    refine WC.sub (r := [(3, (.int .i64 x1)), (4, (.slice a33 x32.length c34))]) ?_ ⟨rfl, rfl, trivial⟩
    obtain ⟨k67, h⟩ := chk h
    obtain ⟨z72, e73, h⟩ := bnd h
    obtain ⟨z80, e81, h⟩ := bnd h
    obtain ⟨k86, h⟩ := chk h
    obtain ⟨x89, e90, h⟩ := bnd h
    refine WC.drawn mo (nthL [[], [0], [0, 1], [], [], [3, 4], [3, 4, 5], [3, 4, 5, 6], [3, 4, 5, 6, 7], [0, 1, 2, 3, 4, 5, 6, 7, 8], [0, 1, 2, 3, 4, 5, 6, 7, 8, 9], [0, 1, 2, 3, 4, 5, 6, 7, 8, 9, 10]]) (nthL [[], [0], [1], [], [], [3, 4], [5], [6], [7], [2, 8], [0], [9, 10]]) (nthK [.val (.slice a33 x32.length c34), .of (fun v _ => At UInt8 (.slice a33 x32.length c34) (0 : Int).toNat v) (fun _ h => h), .val (.int .u8 (z72.toNat : Int)), .imm ([0, 0, 1, 0, 2, 0, 0, 0, 3] : List Int), .val (.int .i64 x1), .ip z80, .val (.int .i64 z80), .val (.int .i64 (sl64 z80 6)), .val (.int .u8 ((u8of (sl64 z80 6)).toNat : Int)), .val (.int .u8 ((z72 ||| (u8of (sl64 z80 6))).toNat : Int)), .of (fun v _ => At UInt8 (.slice a33 x32.length c34) (0 : Int).toNat v) (fun _ h => h), .any]) [⟨none, (some 11), [1, 2, 10], [], fun _ => OV 5 (.slice a33 x32.length c34) x32⟩, ⟨(some 11), none, [], [], fun _ => OV 5 (.slice a33 x89.length c34) x89⟩] (by kernel_rfl) (by kernel_rfl) (by kernel_rfl) (H := G) rfl ⟨?_, ?_, ?_, ?_, ?_, ?_, ?_, ?_, ?_, ?_, ?_, ?_, trivial⟩ ?_
    · intro Q ρ I1 H hI1 hk hpost
      have hc := Mem.le.refl I1
      refine mv rfl rfl ?_
      refine WL.nil ?_
      exact hpost _ _ hc rfl _ (fun _ hd => by obtain rfl := Option.some.inj hd; exact ⟨rfl, trivial⟩)
    · intro Q ρ I1 H hI1 hk hpost
      obtain ⟨_, -⟩ := hk
      have hc := Mem.le.refl I1
      refine ixo 0 et22 rfl rfl rfl k67 rfl (fun uv68 h69 => ?_)
      refine WL.nil ?_
      exact hpost _ _ hc h69 _ (fun _ hd => by obtain rfl := Option.some.inj hd; exact ⟨rfl, trivial⟩)
    · intro Q ρ I1 H hI1 hk hpost
      obtain ⟨k1, -⟩ := hk
      have hc := Mem.le.refl I1
      refine ldo (α := UInt8) 0 na5 rfl k1 rfl e73 rfl (fun uv70 h71 => ?_)
      obtain rfl := h71.u8
      refine WL.nil ?_
      exact hpost _ _ hc rfl _ (fun _ hd => by obtain rfl := Option.some.inj hd; exact ⟨rfl, trivial⟩)
    · intro Q ρ I1 H hI1 hk hpost
      have hc := Mem.le.refl I1
      refine bs (os := [.const (.int .i64 0), .const (.int .i64 0), .const (.int .i64 1), .const (.int .i64 0), .const (.int .i64 2), .const (.int .i64 0), .const (.int .i64 0), .const (.int .i64 0), .const (.int .i64 3)]) (xs := ([0, 0, 1, 0, 2, 0, 0, 0, 3] : List Int)) et59 rfl rfl ⟨(Rv.of_int _ 0), (Rv.of_int _ 0), (Rv.of_int _ 1), (Rv.of_int _ 0), (Rv.of_int _ 2), (Rv.of_int _ 0), (Rv.of_int _ 0), (Rv.of_int _ 0), (Rv.of_int _ 3), trivial⟩ rfl rfl rfl rfl (fun a74 c75 => ?_)
      refine WL.freeze (fun J77 hJ78 h79 => ?_)
      have hc := hc.trans hJ78
      refine WL.nil ?_
      exact hpost _ _ hc h79 _ (fun _ hd => by obtain rfl := Option.some.inj hd; exact ⟨rfl, trivial⟩)
    · intro Q ρ I1 H hI1 hk hpost
      have hc := Mem.le.refl I1
      refine mv rfl rfl ?_
      refine WL.nil ?_
      exact hpost _ _ hc rfl _ (fun _ hd => by obtain rfl := Option.some.inj hd; exact ⟨rfl, trivial⟩)
    · intro Q ρ I1 H hI1 hk hpost
      obtain ⟨k3, _, -⟩ := hk
      have hc := Mem.le.refl I1
      refine ixi et59 rfl rfl k3 e81 rfl (fun uv82 h83 => ?_)
      refine WL.nil ?_
      exact hpost _ _ hc h83 _ (fun _ hd => by obtain rfl := Option.some.inj hd; exact ⟨rfl, trivial⟩)
    · intro Q ρ I1 H hI1 hk hpost
      obtain ⟨k5, -⟩ := hk
      have hc := Mem.le.refl I1
      refine ldi (α := Int) na3 rfl k5 rfl (fun uv84 h85 => ?_)
      obtain rfl := h85.int
      refine WL.nil ?_
      exact hpost _ _ hc rfl _ (fun _ hd => by obtain rfl := Option.some.inj hd; exact ⟨rfl, trivial⟩)
    · intro Q ρ I1 H hI1 hk hpost
      obtain ⟨_, -⟩ := hk
      have hc := Mem.le.refl I1
      refine sl (by decide) rfl rfl rfl ?_
      refine WL.nil ?_
      exact hpost _ _ hc rfl _ (fun _ hd => by obtain rfl := Option.some.inj hd; exact ⟨rfl, trivial⟩)
    · intro Q ρ I1 H hI1 hk hpost
      obtain ⟨_, -⟩ := hk
      have hc := Mem.le.refl I1
      refine cv8 Try.underlying3 Try.underlying5 rfl rfl ?_
      refine WL.nil ?_
      exact hpost _ _ hc rfl _ (fun _ hd => by obtain rfl := Option.some.inj hd; exact ⟨rfl, trivial⟩)
    · intro Q ρ I1 H hI1 hk hpost
      obtain ⟨_, _, -⟩ := hk
      have hc := Mem.le.refl I1
      refine or8 (a := z72) (b := (u8of (sl64 z80 6))) rfl rfl rfl rfl rfl ?_
      refine WL.nil ?_
      exact hpost _ _ hc rfl _ (fun _ hd => by obtain rfl := Option.some.inj hd; exact ⟨rfl, trivial⟩)
    · intro Q ρ I1 H hI1 hk hpost
      obtain ⟨_, -⟩ := hk
      have hc := Mem.le.refl I1
      refine ixo 0 et22 rfl rfl rfl k86 rfl (fun uv87 h88 => ?_)
      refine WL.nil ?_
      exact hpost _ _ hc h88 _ (fun _ hd => by obtain rfl := Option.some.inj hd; exact ⟨rfl, trivial⟩)
    · intro Q ρ I1 H hI1 hk hpost
      obtain ⟨_, k10, -⟩ := hk
      have hc := Mem.le.refl I1
      refine sto2 (α := UInt8) (z := (z72 ||| (u8of (sl64 z80 6)))) sz5 rfl rfl k10 (ilt k86) (Rv.of_u8 _ (z72 ||| (u8of (sl64 z80 6)))) (Option.some.inj e90) ?_
      refine WL.nil ?_
      exact hpost undef _ hc trivial _ (fun _ hd => by cases hd)
    rintro ρ J91 hJ92 -
    refine WX.sub (r := [(4, (.slice a33 x32.length c34))]) ?_ ⟨rfl, trivial⟩
    refine WX.is (H := OV 5 (.slice a33 x89.length c34) x89 :: G) rfl ?_
    have hI := hI.trans hJ92
    refine WX.rb 4 rfl (u := (.slice a33 x89.length c34)) (by rw [← Option.some.inj e90, List.length_set]) ?_
    refine WX.then_ ?_
    refine WC.seq ?_
    refine WC.region ?_
    refine mv rfl rfl ?_
    refine asg rfl rfl ?_
    refine WL.next ?_
    refine WC.ret ?_
    cases h
    exact ret1 Try.results67 rfl hI ⟨_, _, rfl, rfl⟩
  refine WC.skip ?_
  refine WX.then_ ?_
  refine WC.seq ?_
  refine WC.region ?_
  refine mv rfl rfl ?_
  refine asg rfl rfl ?_
  refine WL.next ?_
  refine WC.ret ?_
  cases h
  exact ret1 Try.results67 rfl hI ⟨_, _, rfl, rfl⟩
theorem W68 {I : Mem} {G : List Asn} {p0 : List UInt8} {r : (List UInt8)} (h : haulierref01_Wrap p0 = some r) {u0 : Value} (hp0 : IV I u0 p0) :
    CallsS Try.prog 68 #[u0] I (G) (fun v J G' => ∃ ra0 rc0, v = .slice ra0 r.length rc0 ∧ OV 5 (.slice ra0 r.length rc0) r :: G = G') := by
  refine CallsS.enter Try.func68 rfl Try.ntmps68 rfl (fun w0 => ?_)
  have hI := Mem.le.refl I
  obtain ⟨a0, c0, rfl⟩ := hp0.hd
  unfold haulierref01_Wrap at h
  refine WC.seq ?_
  refine WC.region ?_
  refine asg rfl rfl ?_
  refine WL.next ?_
  refine WC.seq ?_
  refine WC.region ?_
  refine mv rfl rfl ?_
  refine ln et22 rfl (hp0.rd) rfl ?_
  obtain ⟨x1, e2, h⟩ := bnd h
  refine call cl67 rfl rfl (W67 e2) (fun _ J3 _ hJ4 q5 => ?_)
  have hI := hI.trans hJ4
  replace hp0 := hp0.up hJ4
  obtain ⟨a6, c7, rfl, rfl⟩ := q5
  refine mv rfl rfl ?_
  obtain ⟨k9, h⟩ := chk h
  refine ap et22 rfl rfl (hp0.rd) k9 rfl (fun a10 c11 => ?_)
  refine asg rfl rfl ?_
  refine WL.next ?_
  refine WC.ret ?_
  cases h
  exact ret1 Try.results68 rfl hI ⟨_, _, rfl, rfl⟩
theorem W36 {I : Mem} {G : List Asn} {p0 : api_Packet} {r : (List UInt8) × Bool} (h : haulierref01_Plain p0 = some r) {u0_5 : Value} (hp0_5 : IV I u0_5 p0.Data) :
    CallsS Try.prog 36 #[.agg #[(.int .i64 p0.Kind), (.int .i64 p0.Path), (.int .i64 p0.Number), (.int .i64 p0.Of), (.int .i64 p0.From), u0_5, (.bool p0.Fin), (.int .i64 p0.Seen), (.int .i64 p0.Limit)]] I (G) (fun v J G' => ∃ ra0 rc0, v = .tuple #[.slice ra0 r.1.length rc0, .bool r.2] ∧ OV 5 (.slice ra0 r.1.length rc0) r.1 :: G = G') := by
  refine CallsS.enter Try.func36 rfl Try.ntmps36 rfl (fun w0 => ?_)
  have hI := Mem.le.refl I
  obtain ⟨a0_5, c0_5, rfl⟩ := hp0_5.hd
  unfold haulierref01_Plain at h
  refine WC.seq ?_
  refine WC.region ?_
  refine bx rfl rfl rfl (fun g1 => ?_)
  refine asg rfl rfl ?_
  refine asg rfl rfl ?_
  refine WL.next ?_
  refine WC.seq ?_
  refine WC.seq ?_
  refine WC.region ?_
  refine lda 0 ya41 rfl rfl rfl rfl rfl ?_
  obtain ⟨x3, e4, h⟩ := bnd h
  refine call cl66 rfl rfl (W66 e4 hp0_5) (fun _ J5 _ hJ6 q7 => ?_)
  have hI := hI.trans hJ6
  replace hp0_5 := hp0_5.up hJ6
  obtain ⟨rfl, rfl⟩ := q7
  refine nt rfl rfl ?_
  refine WL.next ?_
  refine WC.itebn rfl h (fun k8 h => ?_) (fun k8 h => ?_)
  · skip
    refine WC.skip ?_
    refine WX.then_ ?_
    refine WC.seq ?_
    refine WC.sub (r := [(1, (.pointer (some ⟨g1, 0, none⟩)))]) ?_ ⟨rfl, trivial⟩
    obtain ⟨x12, e13, h⟩ := bnd h
    obtain ⟨k20, h⟩ := chk h
    obtain ⟨x23, e24, h⟩ := bnd h
    obtain ⟨k31, h⟩ := chk h
    obtain ⟨x34, e35, h⟩ := bnd h
    refine WC.drawn mo (nthL [[], [0], [0, 1], [0, 1, 2], [], [4], [4, 5], [0, 1, 2, 3, 4, 5, 6], [], [8], [0, 1, 2, 3, 4, 5, 6, 7, 8, 9], [0, 1, 2, 3, 4, 5, 6, 7, 8, 9, 10], [0, 1, 2, 3, 4, 5, 6, 7, 8, 9, 10, 11]]) (nthL [[], [0], [1], [2], [], [4], [5], [3, 6], [], [8], [9], [7, 10], [11]]) (nthK [.val (.pointer (some ⟨g1, 0, none⟩)), .val (.int .i64 p0.Kind), .val (.int .u8 ((u8of p0.Kind).toNat : Int)), .any, .val (.pointer (some ⟨g1, 1, none⟩)), .val (.int .i64 p0.Path), .any, .any, .val (.pointer (some ⟨g1, 2, none⟩)), .val (.int .i64 p0.Number), .any, .any, .any]) [⟨none, none, [1, 5, 9], [], fun _ => bl g1 #[(.int .i64 p0.Kind), (.int .i64 p0.Path), (.int .i64 p0.Number), (.int .i64 p0.Of), (.int .i64 p0.From), (.slice a0_5 p0.Data.length c0_5), (.bool p0.Fin), (.int .i64 p0.Seen), (.int .i64 p0.Limit)] 41⟩, ⟨(some 3), (some 7), [], [3], fun l => OV 5 (vget l 0) ([(u8of p0.Kind)] : List UInt8)⟩, ⟨(some 6), none, [7], [6], fun l => OV 5 (vget l 0) x12⟩, ⟨(some 7), (some 11), [], [7], fun l => OV 5 (vget l 0) (([(u8of p0.Kind)] : List UInt8) ++ x12)⟩, ⟨(some 10), none, [11], [10], fun l => OV 5 (vget l 0) x23⟩, ⟨(some 11), (some 12), [], [11], fun l => OV 5 (vget l 0) x34⟩, ⟨(some 12), none, [], [12], fun l => OV 5 (vget l 0) x34⟩] (by kernel_rfl) (by kernel_rfl) (by kernel_rfl) (H := G) rfl ⟨?_, ?_, ?_, ?_, ?_, ?_, ?_, ?_, ?_, ?_, ?_, ?_, ?_, trivial⟩ ?_
    · intro Q ρ I1 H hI1 hk hpost
      have hc := Mem.le.refl I1
      refine fa fl41_0 rfl rfl ?_
      refine WL.nil ?_
      exact hpost _ _ hc rfl _ (fun _ hd => by obtain rfl := Option.some.inj hd; exact ⟨rfl, trivial⟩)
    · intro Q ρ I1 H hI1 hk hpost
      obtain ⟨_, -⟩ := hk
      have hc := Mem.le.refl I1
      refine ld 0 na3 rfl rfl rfl rfl ?_
      refine WL.nil ?_
      exact hpost _ _ hc rfl _ (fun _ hd => by obtain rfl := Option.some.inj hd; exact ⟨rfl, trivial⟩)
    · intro Q ρ I1 H hI1 hk hpost
      obtain ⟨_, -⟩ := hk
      have hc := Mem.le.refl I1
      refine cv8 Try.underlying3 Try.underlying5 rfl rfl ?_
      refine WL.nil ?_
      exact hpost _ _ hc rfl _ (fun _ hd => by obtain rfl := Option.some.inj hd; exact ⟨rfl, trivial⟩)
    · intro Q ρ I1 H hI1 hk hpost
      obtain ⟨_, -⟩ := hk
      have hc := Mem.le.refl I1
      refine bs (os := [.tmp 11]) (xs := ([(u8of p0.Kind)] : List UInt8)) et22 rfl rfl ⟨(Rv.of_u8 _ (u8of p0.Kind)), trivial⟩ rfl rfl rfl rfl (fun a9 c10 => ?_)
      refine WL.nil ?_
      exact hpost _ _ hc trivial _ (fun _ hd => by obtain rfl := Option.some.inj hd; exact ⟨rfl, trivial⟩)
    · intro Q ρ I1 H hI1 hk hpost
      have hc := Mem.le.refl I1
      refine fa fl41_1 rfl rfl ?_
      refine WL.nil ?_
      exact hpost _ _ hc rfl _ (fun _ hd => by obtain rfl := Option.some.inj hd; exact ⟨rfl, trivial⟩)
    · intro Q ρ I1 H hI1 hk hpost
      obtain ⟨_, -⟩ := hk
      have hc := Mem.le.refl I1
      refine ld 0 na3 rfl rfl rfl rfl ?_
      refine WL.nil ?_
      exact hpost _ _ hc rfl _ (fun _ hd => by obtain rfl := Option.some.inj hd; exact ⟨rfl, trivial⟩)
    · intro Q ρ I1 H hI1 hk hpost
      obtain ⟨_, -⟩ := hk
      have hc := Mem.le.refl I1
      refine call cl67 rfl rfl (W67 e13) (fun _ J14 _ hJ15 q16 => ?_)
      have hc := hc.trans hJ15
      obtain ⟨a17, c18, rfl, rfl⟩ := q16
      refine WL.nil ?_
      exact hpost _ _ hc trivial _ (fun _ hd => by obtain rfl := Option.some.inj hd; exact ⟨rfl, trivial⟩)
    · intro Q ρ I1 H hI1 hk hpost
      obtain ⟨_, _, -⟩ := hk
      have hc := Mem.le.refl I1
      refine ap et22 rfl rfl ((OV.rd 1 rfl)) k20 rfl (fun a21 c22 => ?_)
      refine WL.front 1 ?_
      refine WL.front 1 ?_
      refine WL.nil ?_
      exact hpost _ _ hc trivial _ (fun _ hd => by obtain rfl := Option.some.inj hd; exact ⟨rfl, trivial⟩)
    · intro Q ρ I1 H hI1 hk hpost
      have hc := Mem.le.refl I1
      refine fa fl41_2 rfl rfl ?_
      refine WL.nil ?_
      exact hpost _ _ hc rfl _ (fun _ hd => by obtain rfl := Option.some.inj hd; exact ⟨rfl, trivial⟩)
    · intro Q ρ I1 H hI1 hk hpost
      obtain ⟨_, -⟩ := hk
      have hc := Mem.le.refl I1
      refine ld 0 na3 rfl rfl rfl rfl ?_
      refine WL.nil ?_
      exact hpost _ _ hc rfl _ (fun _ hd => by obtain rfl := Option.some.inj hd; exact ⟨rfl, trivial⟩)
    · intro Q ρ I1 H hI1 hk hpost
      obtain ⟨_, -⟩ := hk
      have hc := Mem.le.refl I1
      refine call cl67 rfl rfl (W67 e24) (fun _ J25 _ hJ26 q27 => ?_)
      have hc := hc.trans hJ26
      obtain ⟨a28, c29, rfl, rfl⟩ := q27
      refine WL.nil ?_
      exact hpost _ _ hc trivial _ (fun _ hd => by obtain rfl := Option.some.inj hd; exact ⟨rfl, trivial⟩)
    · intro Q ρ I1 H hI1 hk hpost
      obtain ⟨_, _, -⟩ := hk
      have hc := Mem.le.refl I1
      refine ap et22 rfl rfl ((OV.rd 1 rfl)) k31 rfl (fun a32 c33 => ?_)
      refine WL.ren (Option.some.inj e35) ?_
      refine WL.front 1 ?_
      refine WL.front 1 ?_
      refine WL.nil ?_
      exact hpost _ _ hc trivial _ (fun _ hd => by obtain rfl := Option.some.inj hd; exact ⟨rfl, trivial⟩)
    · intro Q ρ I1 H hI1 hk hpost
      obtain ⟨_, -⟩ := hk
      have hc := Mem.le.refl I1
      refine asg rfl rfl ?_
      refine WL.nil ?_
      exact hpost _ _ hc trivial _ (fun _ hd => by obtain rfl := Option.some.inj hd; exact ⟨rfl, trivial⟩)
    rintro ρ J36 hJ37 -
    refine WX.sub (r := [(1, (.pointer (some ⟨g1, 0, none⟩))), (4, (ρ 12))]) ?_ ⟨rfl, rfl, trivial⟩
    refine WX.is (H := bl g1 #[(.int .i64 p0.Kind), (.int .i64 p0.Path), (.int .i64 p0.Number), (.int .i64 p0.Of), (.int .i64 p0.From), (.slice a0_5 p0.Data.length c0_5), (.bool p0.Fin), (.int .i64 p0.Seen), (.int .i64 p0.Limit)] 41 :: OV 5 (ρ 6) x12 :: OV 5 (ρ 10) x23 :: OV 5 (ρ 12) x34 :: G) rfl ?_
    have hI := hI.trans hJ37
    replace hp0_5 := hp0_5.up hJ37
    refine WX.front 3 ?_
    generalize ρ 12 = uv38 at *; refine WX.hd (fun a39 c40 e => ?_); subst e
    refine WX.then_ ?_
    refine WC.seq ?_
    refine WC.seq ?_
    refine WC.region ?_
    refine fa fl41_0 rfl rfl ?_
    refine ld 1 na3 rfl rfl rfl rfl ?_
    refine WL.del 2 ?_
    refine WL.del 2 ?_
    refine WL.next ?_
    refine WC.block ?_
    refine WC.seq ?_
    refine WC.region ?_
    refine eq rfl rfl rfl ?_
    refine asg rfl rfl ?_
    refine WL.next ?_
    refine WC.ite rfl h (fun k41 h => ?_) (fun k41 h => ?_)
    · skip
      refine WC.region ?_
      refine mv rfl rfl ?_
      refine fa fl41_3 rfl rfl ?_
      refine ld 1 na3 rfl rfl rfl rfl ?_
      obtain ⟨x42, e43, h⟩ := bnd h
      refine call cl67 rfl rfl (W67 e43) (fun _ J44 _ hJ45 q46 => ?_)
      have hI := hI.trans hJ45
      replace hp0_5 := hp0_5.up hJ45
      obtain ⟨a47, c48, rfl, rfl⟩ := q46
      refine WL.front 1 ?_
      obtain ⟨k50, h⟩ := chk h
      refine ap et22 rfl rfl ((OV.rd 1 rfl)) k50 rfl (fun a51 c52 => ?_)
      refine asg rfl rfl ?_
      refine WL.del 1 ?_
      refine WL.del 1 ?_
      refine WL.nil ?_
      refine WX.block_normal ?_
      refine WX.then_ ?_
      refine WC.seq ?_
      refine WC.region ?_
      refine mv rfl rfl ?_
      refine asg rfl rfl ?_
      refine asg rfl rfl ?_
      refine WL.next ?_
      refine WC.ret ?_
      cases h
      exact ret2 Try.results36 rfl rfl hI ⟨_, _, rfl, rfl⟩
    refine WC.seq ?_
    refine WC.region ?_
    refine eq rfl rfl rfl ?_
    refine asg rfl rfl ?_
    refine WL.next ?_
    refine WC.ite rfl h (fun k53 h => ?_) (fun k53 h => ?_)
    · skip
      refine WC.seq ?_
      refine WC.region ?_
      refine asg rfl rfl ?_
      refine WL.next ?_
      refine WC.seq ?_
      refine WC.seq ?_
      refine WC.region ?_
      refine fa fl41_6 rfl rfl ?_
      refine ld 1 na4 rfl rfl rfl rfl ?_
      refine WL.next ?_
      obtain ⟨j56, hj56, h⟩ := bnd h
      refine WC.joinQ (σ := UInt8) (fun x55 => [(1, (.pointer (some ⟨g1, 0, none⟩))), (4, (.slice a39 x34.length c40)), (5, (.int .u8 (x55.toNat : Int)))]) (fun x55 => OV 5 (.slice a39 x34.length c40) x34 :: bl g1 #[(.int .i64 p0.Kind), (.int .i64 p0.Path), (.int .i64 p0.Number), (.int .i64 p0.Of), (.int .i64 p0.From), (.slice a0_5 p0.Data.length c0_5), (.bool p0.Fin), (.int .i64 p0.Seen), (.int .i64 p0.Limit)] 41 :: G) (fun x55 J => x55 = j56) (fun kj56 => ?_) ?_
      · skip
        have lj56 := Mem.le.refl J36
        refine WC.iteb rfl hj56 (fun k57 hj56 => ?_) (fun k57 hj56 => ?_)
        · skip
          refine WC.region ?_
          refine asg rfl rfl ?_
          refine WL.nil ?_
          refine WX.front 1 ?_
          refine WX.front 1 ?_
          exact (kj56 (1 : UInt8) _ lj56 (Option.some.inj hj56)).sub ⟨rfl, rfl, rfl, trivial⟩
        refine WC.skip ?_
        refine WX.front 1 ?_
        refine WX.front 1 ?_
        exact (kj56 (0 : UInt8) _ lj56 (Option.some.inj hj56)).sub ⟨rfl, rfl, rfl, trivial⟩
      rintro x55 J58 hJ59 rfl
      have hI := hI.trans hJ59
      replace hp0_5 := hp0_5.up hJ59
      refine WX.then_ ?_
      refine WC.sub (r := [(1, (.pointer (some ⟨g1, 0, none⟩))), (4, (.slice a39 x34.length c40)), (5, (.int .u8 (x55.toNat : Int)))]) ?_ ⟨rfl, rfl, rfl, trivial⟩
      obtain ⟨x60, e61, h⟩ := bnd h
      obtain ⟨k71, h⟩ := chk h
      obtain ⟨x74, e75, h⟩ := bnd h
      obtain ⟨k82, h⟩ := chk h
      obtain ⟨k88, h⟩ := chk h
      obtain ⟨x91, e92, h⟩ := bnd h
      refine WC.front 1 ?_
      refine WC.drawn mo (nthL [[], [], [1], [1, 2], [0, 1, 2, 3], [], [5], [0, 1, 2, 3, 4, 5, 6], [0, 1, 2, 3, 4, 5, 6, 7], [], [9], [0, 1, 2, 3, 4, 5, 6, 7, 8, 9, 10], [0, 1, 2, 3, 4, 5, 6, 7, 8, 9, 10, 11]]) (nthL [[], [], [1], [2], [0, 3], [], [5], [6], [4, 7], [], [9], [8, 10], [11]]) (nthK [.val (.slice a39 x34.length c40), .val (.pointer (some ⟨g1, 4, none⟩)), .val (.int .i64 p0.From), .any, .any, .val (.pointer (some ⟨g1, 5, none⟩)), .val (.slice a0_5 p0.Data.length c0_5), .any, .any, .val (.int .u8 (x55.toNat : Int)), .any, .any, .any]) [⟨none, none, [2, 6], [], fun _ => bl g1 #[(.int .i64 p0.Kind), (.int .i64 p0.Path), (.int .i64 p0.Number), (.int .i64 p0.Of), (.int .i64 p0.From), (.slice a0_5 p0.Data.length c0_5), (.bool p0.Fin), (.int .i64 p0.Seen), (.int .i64 p0.Limit)] 41⟩, ⟨(some 3), none, [4], [3], fun l => OV 5 (vget l 0) x60⟩, ⟨none, (some 4), [], [], fun _ => OV 5 (.slice a39 x34.length c40) x34⟩, ⟨(some 4), (some 8), [], [4], fun l => OV 5 (vget l 0) (x34 ++ x60)⟩, ⟨(some 7), none, [8], [7], fun l => OV 5 (vget l 0) x74⟩, ⟨(some 8), (some 11), [], [8], fun l => OV 5 (vget l 0) ((x34 ++ x60) ++ x74)⟩, ⟨(some 10), none, [11], [10], fun l => OV 5 (vget l 0) ([x55] : List UInt8)⟩, ⟨(some 11), (some 12), [], [11], fun l => OV 5 (vget l 0) x91⟩, ⟨(some 12), none, [], [12], fun l => OV 5 (vget l 0) x91⟩] (by kernel_rfl) (by kernel_rfl) (by kernel_rfl) (H := G) rfl ⟨?_, ?_, ?_, ?_, ?_, ?_, ?_, ?_, ?_, ?_, ?_, ?_, ?_, trivial⟩ ?_
      · intro Q ρ I1 H hI1 hk hpost
        have hc := Mem.le.refl I1
        refine mv rfl rfl ?_
        refine WL.nil ?_
        exact hpost _ _ hc rfl _ (fun _ hd => by obtain rfl := Option.some.inj hd; exact ⟨rfl, trivial⟩)
      · intro Q ρ I1 H hI1 hk hpost
        have hc := Mem.le.refl I1
        refine fa fl41_4 rfl rfl ?_
        refine WL.nil ?_
        exact hpost _ _ hc rfl _ (fun _ hd => by obtain rfl := Option.some.inj hd; exact ⟨rfl, trivial⟩)
      · intro Q ρ I1 H hI1 hk hpost
        obtain ⟨_, -⟩ := hk
        have hc := Mem.le.refl I1
        refine ld 0 na3 rfl rfl rfl rfl ?_
        refine WL.nil ?_
        exact hpost _ _ hc rfl _ (fun _ hd => by obtain rfl := Option.some.inj hd; exact ⟨rfl, trivial⟩)
      · intro Q ρ I1 H hI1 hk hpost
        obtain ⟨_, -⟩ := hk
        have hc := Mem.le.refl I1
        refine call cl67 rfl rfl (W67 e61) (fun _ J62 _ hJ63 q64 => ?_)
        have hc := hc.trans hJ63
        obtain ⟨a65, c66, rfl, rfl⟩ := q64
        refine WL.nil ?_
        exact hpost _ _ hc trivial _ (fun _ hd => by obtain rfl := Option.some.inj hd; exact ⟨rfl, trivial⟩)
      · intro Q ρ I1 H hI1 hk hpost
        obtain ⟨_, _, -⟩ := hk
        have hc := Mem.le.refl I1
        refine ap et22 rfl rfl ((OV.rd 1 rfl)) k71 rfl (fun a72 c73 => ?_)
        refine WL.front 1 ?_
        refine WL.front 1 ?_
        refine WL.nil ?_
        exact hpost _ _ hc trivial _ (fun _ hd => by obtain rfl := Option.some.inj hd; exact ⟨rfl, trivial⟩)
      · intro Q ρ I1 H hI1 hk hpost
        have hc := Mem.le.refl I1
        refine fa fl41_5 rfl rfl ?_
        refine WL.nil ?_
        exact hpost _ _ hc rfl _ (fun _ hd => by obtain rfl := Option.some.inj hd; exact ⟨rfl, trivial⟩)
      · intro Q ρ I1 H hI1 hk hpost
        obtain ⟨_, -⟩ := hk
        have hc := Mem.le.refl I1
        refine ld 0 na22 rfl rfl rfl rfl ?_
        refine WL.nil ?_
        exact hpost _ _ hc rfl _ (fun _ hd => by obtain rfl := Option.some.inj hd; exact ⟨rfl, trivial⟩)
      · intro Q ρ I1 H hI1 hk hpost
        obtain ⟨_, -⟩ := hk
        replace hp0_5 := hp0_5.up hI1
        have hc := Mem.le.refl I1
        refine call cl68 rfl rfl (W68 e75 hp0_5) (fun _ J76 _ hJ77 q78 => ?_)
        have hc := hc.trans hJ77
        replace hp0_5 := hp0_5.up hJ77
        obtain ⟨a79, c80, rfl, rfl⟩ := q78
        refine WL.nil ?_
        exact hpost _ _ hc trivial _ (fun _ hd => by obtain rfl := Option.some.inj hd; exact ⟨rfl, trivial⟩)
      · intro Q ρ I1 H hI1 hk hpost
        obtain ⟨_, _, -⟩ := hk
        have hc := Mem.le.refl I1
        refine ap et22 rfl rfl ((OV.rd 1 rfl)) k82 rfl (fun a83 c84 => ?_)
        refine WL.front 1 ?_
        refine WL.front 1 ?_
        refine WL.nil ?_
        exact hpost _ _ hc trivial _ (fun _ hd => by obtain rfl := Option.some.inj hd; exact ⟨rfl, trivial⟩)
      · intro Q ρ I1 H hI1 hk hpost
        have hc := Mem.le.refl I1
        refine mv rfl rfl ?_
        refine WL.nil ?_
        exact hpost _ _ hc rfl _ (fun _ hd => by obtain rfl := Option.some.inj hd; exact ⟨rfl, trivial⟩)
      · intro Q ρ I1 H hI1 hk hpost
        obtain ⟨_, -⟩ := hk
        have hc := Mem.le.refl I1
        refine bs (os := [.tmp 43]) (xs := ([x55] : List UInt8)) et22 rfl rfl ⟨(Rv.of_u8 _ x55), trivial⟩ rfl rfl rfl rfl (fun a85 c86 => ?_)
        refine WL.nil ?_
        exact hpost _ _ hc trivial _ (fun _ hd => by obtain rfl := Option.some.inj hd; exact ⟨rfl, trivial⟩)
      · intro Q ρ I1 H hI1 hk hpost
        obtain ⟨_, _, -⟩ := hk
        have hc := Mem.le.refl I1
        refine ap et22 rfl rfl ((OV.rd 1 rfl)) k88 rfl (fun a89 c90 => ?_)
        refine WL.ren (Option.some.inj e92) ?_
        refine WL.front 1 ?_
        refine WL.front 1 ?_
        refine WL.nil ?_
        exact hpost _ _ hc trivial _ (fun _ hd => by obtain rfl := Option.some.inj hd; exact ⟨rfl, trivial⟩)
      · intro Q ρ I1 H hI1 hk hpost
        obtain ⟨_, -⟩ := hk
        have hc := Mem.le.refl I1
        refine asg rfl rfl ?_
        refine WL.nil ?_
        exact hpost _ _ hc trivial _ (fun _ hd => by obtain rfl := Option.some.inj hd; exact ⟨rfl, trivial⟩)
      rintro ρ J93 hJ94 -
      refine WX.sub (r := [(4, (ρ 12))]) ?_ ⟨rfl, trivial⟩
      refine WX.is (H := bl g1 #[(.int .i64 p0.Kind), (.int .i64 p0.Path), (.int .i64 p0.Number), (.int .i64 p0.Of), (.int .i64 p0.From), (.slice a0_5 p0.Data.length c0_5), (.bool p0.Fin), (.int .i64 p0.Seen), (.int .i64 p0.Limit)] 41 :: OV 5 (ρ 3) x60 :: OV 5 (ρ 7) x74 :: OV 5 (ρ 10) ([x55] : List UInt8) :: OV 5 (ρ 12) x91 :: G) rfl ?_
      have hI := hI.trans hJ94
      replace hp0_5 := hp0_5.up hJ94
      refine WX.front 4 ?_
      generalize ρ 12 = uv95 at *; refine WX.hd (fun a96 c97 e => ?_); subst e
      refine WX.block_normal ?_
      refine WX.then_ ?_
      refine WC.seq ?_
      refine WC.region ?_
      refine mv rfl rfl ?_
      refine asg rfl rfl ?_
      refine asg rfl rfl ?_
      refine WL.del 1 ?_
      refine WL.del 1 ?_
      refine WL.del 1 ?_
      refine WL.del 1 ?_
      refine WL.next ?_
      refine WC.ret ?_
      cases h
      exact ret2 Try.results36 rfl rfl hI ⟨_, _, rfl, rfl⟩
    refine WC.seq ?_
    refine WC.region ?_
    refine eq rfl rfl rfl ?_
    refine asg rfl rfl ?_
    refine WL.next ?_
    refine WC.ite rfl h (fun k98 h => ?_) (fun k98 h => ?_)
    · skip
      refine WC.sub (r := [(1, (.pointer (some ⟨g1, 0, none⟩))), (4, (.slice a39 x34.length c40))]) ?_ ⟨rfl, rfl, trivial⟩
      obtain ⟨x99, e100, h⟩ := bnd h
      obtain ⟨k110, h⟩ := chk h
      obtain ⟨x113, e114, h⟩ := bnd h
      obtain ⟨k121, h⟩ := chk h
      obtain ⟨x124, e125, h⟩ := bnd h
      obtain ⟨k132, h⟩ := chk h
      refine WC.front 1 ?_
      refine WC.drawn mo (nthL [[], [], [1], [1, 2], [0, 1, 2, 3], [], [5], [0, 1, 2, 3, 4, 5, 6], [0, 1, 2, 3, 4, 5, 6, 7], [], [9], [0, 1, 2, 3, 4, 5, 6, 7, 8, 9, 10], [0, 1, 2, 3, 4, 5, 6, 7, 8, 9, 10, 11], [0, 1, 2, 3, 4, 5, 6, 7, 8, 9, 10, 11, 12]]) (nthL [[], [], [1], [2], [0, 3], [], [5], [6], [4, 7], [], [9], [10], [8, 11], [12]]) (nthK [.val (.slice a39 x34.length c40), .val (.pointer (some ⟨g1, 3, none⟩)), .val (.int .i64 p0.Of), .any, .any, .val (.pointer (some ⟨g1, 7, none⟩)), .val (.int .i64 p0.Seen), .any, .any, .val (.pointer (some ⟨g1, 8, none⟩)), .val (.int .i64 p0.Limit), .any, .any, .any]) [⟨none, none, [2, 6, 10], [], fun _ => bl g1 #[(.int .i64 p0.Kind), (.int .i64 p0.Path), (.int .i64 p0.Number), (.int .i64 p0.Of), (.int .i64 p0.From), (.slice a0_5 p0.Data.length c0_5), (.bool p0.Fin), (.int .i64 p0.Seen), (.int .i64 p0.Limit)] 41⟩, ⟨(some 3), none, [4], [3], fun l => OV 5 (vget l 0) x99⟩, ⟨none, (some 4), [], [], fun _ => OV 5 (.slice a39 x34.length c40) x34⟩, ⟨(some 4), (some 8), [], [4], fun l => OV 5 (vget l 0) (x34 ++ x99)⟩, ⟨(some 7), none, [8], [7], fun l => OV 5 (vget l 0) x113⟩, ⟨(some 8), (some 12), [], [8], fun l => OV 5 (vget l 0) ((x34 ++ x99) ++ x113)⟩, ⟨(some 11), none, [12], [11], fun l => OV 5 (vget l 0) x124⟩, ⟨(some 12), (some 13), [], [12], fun l => OV 5 (vget l 0) (((x34 ++ x99) ++ x113) ++ x124)⟩, ⟨(some 13), none, [], [13], fun l => OV 5 (vget l 0) (((x34 ++ x99) ++ x113) ++ x124)⟩] (by kernel_rfl) (by kernel_rfl) (by kernel_rfl) (H := G) rfl ⟨?_, ?_, ?_, ?_, ?_, ?_, ?_, ?_, ?_, ?_, ?_, ?_, ?_, ?_, trivial⟩ ?_
      · intro Q ρ I1 H hI1 hk hpost
        have hc := Mem.le.refl I1
        refine mv rfl rfl ?_
        refine WL.nil ?_
        exact hpost _ _ hc rfl _ (fun _ hd => by obtain rfl := Option.some.inj hd; exact ⟨rfl, trivial⟩)
      · intro Q ρ I1 H hI1 hk hpost
        have hc := Mem.le.refl I1
        refine fa fl41_3 rfl rfl ?_
        refine WL.nil ?_
        exact hpost _ _ hc rfl _ (fun _ hd => by obtain rfl := Option.some.inj hd; exact ⟨rfl, trivial⟩)
      · intro Q ρ I1 H hI1 hk hpost
        obtain ⟨_, -⟩ := hk
        have hc := Mem.le.refl I1
        refine ld 0 na3 rfl rfl rfl rfl ?_
        refine WL.nil ?_
        exact hpost _ _ hc rfl _ (fun _ hd => by obtain rfl := Option.some.inj hd; exact ⟨rfl, trivial⟩)
      · intro Q ρ I1 H hI1 hk hpost
        obtain ⟨_, -⟩ := hk
        have hc := Mem.le.refl I1
        refine call cl67 rfl rfl (W67 e100) (fun _ J101 _ hJ102 q103 => ?_)
        have hc := hc.trans hJ102
        obtain ⟨a104, c105, rfl, rfl⟩ := q103
        refine WL.nil ?_
        exact hpost _ _ hc trivial _ (fun _ hd => by obtain rfl := Option.some.inj hd; exact ⟨rfl, trivial⟩)
      · intro Q ρ I1 H hI1 hk hpost
        obtain ⟨_, _, -⟩ := hk
        have hc := Mem.le.refl I1
        refine ap et22 rfl rfl ((OV.rd 1 rfl)) k110 rfl (fun a111 c112 => ?_)
        refine WL.front 1 ?_
        refine WL.front 1 ?_
        refine WL.nil ?_
        exact hpost _ _ hc trivial _ (fun _ hd => by obtain rfl := Option.some.inj hd; exact ⟨rfl, trivial⟩)
      · intro Q ρ I1 H hI1 hk hpost
        have hc := Mem.le.refl I1
        refine fa fl41_7 rfl rfl ?_
        refine WL.nil ?_
        exact hpost _ _ hc rfl _ (fun _ hd => by obtain rfl := Option.some.inj hd; exact ⟨rfl, trivial⟩)
      · intro Q ρ I1 H hI1 hk hpost
        obtain ⟨_, -⟩ := hk
        have hc := Mem.le.refl I1
        refine ld 0 na3 rfl rfl rfl rfl ?_
        refine WL.nil ?_
        exact hpost _ _ hc rfl _ (fun _ hd => by obtain rfl := Option.some.inj hd; exact ⟨rfl, trivial⟩)
      · intro Q ρ I1 H hI1 hk hpost
        obtain ⟨_, -⟩ := hk
        have hc := Mem.le.refl I1
        refine call cl67 rfl rfl (W67 e114) (fun _ J115 _ hJ116 q117 => ?_)
        have hc := hc.trans hJ116
        obtain ⟨a118, c119, rfl, rfl⟩ := q117
        refine WL.nil ?_
        exact hpost _ _ hc trivial _ (fun _ hd => by obtain rfl := Option.some.inj hd; exact ⟨rfl, trivial⟩)
      · intro Q ρ I1 H hI1 hk hpost
        obtain ⟨_, _, -⟩ := hk
        have hc := Mem.le.refl I1
        refine ap et22 rfl rfl ((OV.rd 1 rfl)) k121 rfl (fun a122 c123 => ?_)
        refine WL.front 1 ?_
        refine WL.front 1 ?_
        refine WL.nil ?_
        exact hpost _ _ hc trivial _ (fun _ hd => by obtain rfl := Option.some.inj hd; exact ⟨rfl, trivial⟩)
      · intro Q ρ I1 H hI1 hk hpost
        have hc := Mem.le.refl I1
        refine fa fl41_8 rfl rfl ?_
        refine WL.nil ?_
        exact hpost _ _ hc rfl _ (fun _ hd => by obtain rfl := Option.some.inj hd; exact ⟨rfl, trivial⟩)
      · intro Q ρ I1 H hI1 hk hpost
        obtain ⟨_, -⟩ := hk
        have hc := Mem.le.refl I1
        refine ld 0 na3 rfl rfl rfl rfl ?_
        refine WL.nil ?_
        exact hpost _ _ hc rfl _ (fun _ hd => by obtain rfl := Option.some.inj hd; exact ⟨rfl, trivial⟩)
      · intro Q ρ I1 H hI1 hk hpost
        obtain ⟨_, -⟩ := hk
        have hc := Mem.le.refl I1
        refine call cl67 rfl rfl (W67 e125) (fun _ J126 _ hJ127 q128 => ?_)
        have hc := hc.trans hJ127
        obtain ⟨a129, c130, rfl, rfl⟩ := q128
        refine WL.nil ?_
        exact hpost _ _ hc trivial _ (fun _ hd => by obtain rfl := Option.some.inj hd; exact ⟨rfl, trivial⟩)
      · intro Q ρ I1 H hI1 hk hpost
        obtain ⟨_, _, -⟩ := hk
        have hc := Mem.le.refl I1
        refine ap et22 rfl rfl ((OV.rd 1 rfl)) k132 rfl (fun a133 c134 => ?_)
        refine WL.front 1 ?_
        refine WL.front 1 ?_
        refine WL.nil ?_
        exact hpost _ _ hc trivial _ (fun _ hd => by obtain rfl := Option.some.inj hd; exact ⟨rfl, trivial⟩)
      · intro Q ρ I1 H hI1 hk hpost
        obtain ⟨_, -⟩ := hk
        have hc := Mem.le.refl I1
        refine asg rfl rfl ?_
        refine WL.nil ?_
        exact hpost _ _ hc trivial _ (fun _ hd => by obtain rfl := Option.some.inj hd; exact ⟨rfl, trivial⟩)
      rintro ρ J135 hJ136 -
      refine WX.sub (r := [(4, (ρ 13))]) ?_ ⟨rfl, trivial⟩
      refine WX.is (H := bl g1 #[(.int .i64 p0.Kind), (.int .i64 p0.Path), (.int .i64 p0.Number), (.int .i64 p0.Of), (.int .i64 p0.From), (.slice a0_5 p0.Data.length c0_5), (.bool p0.Fin), (.int .i64 p0.Seen), (.int .i64 p0.Limit)] 41 :: OV 5 (ρ 3) x99 :: OV 5 (ρ 7) x113 :: OV 5 (ρ 11) x124 :: OV 5 (ρ 13) (((x34 ++ x99) ++ x113) ++ x124) :: G) rfl ?_
      have hI := hI.trans hJ136
      replace hp0_5 := hp0_5.up hJ136
      refine WX.front 4 ?_
      generalize ρ 13 = uv137 at *; refine WX.hd (fun a138 c139 e => ?_); subst e
      refine WX.block_normal ?_
      refine WX.then_ ?_
      refine WC.seq ?_
      refine WC.region ?_
      refine mv rfl rfl ?_
      refine asg rfl rfl ?_
      refine asg rfl rfl ?_
      refine WL.del 1 ?_
      refine WL.del 1 ?_
      refine WL.del 1 ?_
      refine WL.del 1 ?_
      refine WL.next ?_
      refine WC.ret ?_
      cases h
      exact ret2 Try.results36 rfl rfl hI ⟨_, _, rfl, rfl⟩
    refine WC.skip ?_
    refine WX.block_normal ?_
    refine WX.then_ ?_
    refine WC.seq ?_
    refine WC.region ?_
    refine mv rfl rfl ?_
    refine asg rfl rfl ?_
    refine asg rfl rfl ?_
    refine WL.del 1 ?_
    refine WL.next ?_
    refine WC.ret ?_
    cases h
    exact ret2 Try.results36 rfl rfl hI ⟨_, _, rfl, rfl⟩
  refine WC.seq ?_
  refine WC.region ?_
  refine asg rfl rfl ?_
  refine asg rfl rfl ?_
  refine WL.del 0 ?_
  refine WL.next ?_
  refine WC.ret ?_
  refine WX.then_ret ?_
  refine WX.own_nil UInt8 5 ?_
  cases h
  exact ret2 Try.results36 rfl rfl hI ⟨_, _, rfl, rfl⟩
theorem W38 {I : Mem} {G : List Asn} {p0 : api_Packet} {p1 : api_Packet} {r : Bool} (h : haulierref01_Same p0 p1 = some r) {u0_5 : Value} (hp0_5 : IV I u0_5 p0.Data) {u1_5 : Value} (hp1_5 : IV I u1_5 p1.Data) :
    CallsS Try.prog 38 #[.agg #[(.int .i64 p0.Kind), (.int .i64 p0.Path), (.int .i64 p0.Number), (.int .i64 p0.Of), (.int .i64 p0.From), u0_5, (.bool p0.Fin), (.int .i64 p0.Seen), (.int .i64 p0.Limit)], .agg #[(.int .i64 p1.Kind), (.int .i64 p1.Path), (.int .i64 p1.Number), (.int .i64 p1.Of), (.int .i64 p1.From), u1_5, (.bool p1.Fin), (.int .i64 p1.Seen), (.int .i64 p1.Limit)]] I (G) (fun v J G' => v = .bool r ∧ G = G') := by
  refine CallsS.enter Try.func38 rfl Try.ntmps38 rfl (fun w0 => ?_)
  have hI := Mem.le.refl I
  obtain ⟨a0_5, c0_5, rfl⟩ := hp0_5.hd
  obtain ⟨a1_5, c1_5, rfl⟩ := hp1_5.hd
  unfold haulierref01_Same at h
  refine WC.seq ?_
  refine WC.region ?_
  refine bx rfl rfl rfl (fun g1 => ?_)
  refine bx rfl rfl rfl (fun g3 => ?_)
  refine asg rfl rfl ?_
  refine WL.next ?_
  refine WC.seq ?_
  refine WC.region ?_
  refine fa fl41_0 rfl rfl ?_
  refine ld 1 na3 rfl rfl rfl rfl ?_
  refine fa fl41_0 rfl rfl ?_
  refine ld 0 na3 rfl rfl rfl rfl ?_
  refine eq rfl rfl rfl ?_
  refine mv rfl rfl ?_
  rcases spl h with ⟨k5, h⟩ | ⟨k5, h⟩
  · skip
    refine WL.rb 10 rfl (bT k5) ?_
    refine WL.on rfl rfl ?_
    refine fa fl41_1 rfl rfl ?_
    refine WL.on rfl rfl ?_
    refine ld 1 na3 rfl rfl rfl rfl ?_
    refine WL.on rfl rfl ?_
    refine fa fl41_1 rfl rfl ?_
    refine WL.on rfl rfl ?_
    refine ld 0 na3 rfl rfl rfl rfl ?_
    refine WL.on rfl rfl ?_
    refine eq rfl rfl rfl ?_
    refine pkT rfl rfl rfl ?_
    refine mv rfl rfl ?_
    rcases spl h with ⟨k6, h⟩ | ⟨k6, h⟩
    · skip
      refine WL.rb 17 rfl (bT k6) ?_
      refine WL.on rfl rfl ?_
      refine fa fl41_2 rfl rfl ?_
      refine WL.on rfl rfl ?_
      refine ld 1 na3 rfl rfl rfl rfl ?_
      refine WL.on rfl rfl ?_
      refine fa fl41_2 rfl rfl ?_
      refine WL.on rfl rfl ?_
      refine ld 0 na3 rfl rfl rfl rfl ?_
      refine WL.on rfl rfl ?_
      refine eq rfl rfl rfl ?_
      refine pkT rfl rfl rfl ?_
      refine mv rfl rfl ?_
      rcases spl h with ⟨k7, h⟩ | ⟨k7, h⟩
      · skip
        refine WL.rb 24 rfl (bT k7) ?_
        refine WL.on rfl rfl ?_
        refine fa fl41_3 rfl rfl ?_
        refine WL.on rfl rfl ?_
        refine ld 1 na3 rfl rfl rfl rfl ?_
        refine WL.on rfl rfl ?_
        refine fa fl41_3 rfl rfl ?_
        refine WL.on rfl rfl ?_
        refine ld 0 na3 rfl rfl rfl rfl ?_
        refine WL.on rfl rfl ?_
        refine eq rfl rfl rfl ?_
        refine pkT rfl rfl rfl ?_
        refine mv rfl rfl ?_
        rcases spl h with ⟨k8, h⟩ | ⟨k8, h⟩
        · skip
          refine WL.rb 31 rfl (bT k8) ?_
          refine WL.on rfl rfl ?_
          refine fa fl41_4 rfl rfl ?_
          refine WL.on rfl rfl ?_
          refine ld 1 na3 rfl rfl rfl rfl ?_
          refine WL.on rfl rfl ?_
          refine fa fl41_4 rfl rfl ?_
          refine WL.on rfl rfl ?_
          refine ld 0 na3 rfl rfl rfl rfl ?_
          refine WL.on rfl rfl ?_
          refine eq rfl rfl rfl ?_
          refine pkT rfl rfl rfl ?_
          refine mv rfl rfl ?_
          rcases spl h with ⟨k9, h⟩ | ⟨k9, h⟩
          · skip
            refine WL.rb 38 rfl (bT k9) ?_
            refine WL.on rfl rfl ?_
            refine fa fl41_5 rfl rfl ?_
            refine WL.on rfl rfl ?_
            refine ld 1 na22 rfl rfl rfl rfl ?_
            refine WL.on rfl rfl ?_
            refine cvs Try.underlying22 Try.underlying5 Try.underlying9 rfl (hp0_5.rd) rfl ?_
            refine WL.on rfl rfl ?_
            refine fa fl41_5 rfl rfl ?_
            refine WL.on rfl rfl ?_
            refine ld 0 na22 rfl rfl rfl rfl ?_
            refine WL.on rfl rfl ?_
            refine cvs Try.underlying22 Try.underlying5 Try.underlying9 rfl (hp1_5.rd) rfl ?_
            refine WL.on rfl rfl ?_
            refine se rfl rfl rfl ?_
            refine pkT rfl rfl rfl ?_
            refine mv rfl rfl ?_
            rcases spl h with ⟨k10, h⟩ | ⟨k10, h⟩
            · skip
              refine WL.rb 47 rfl (bt1 k10) ?_
              refine WL.on rfl rfl ?_
              refine fa fl41_6 rfl rfl ?_
              refine WL.on rfl rfl ?_
              refine ld 1 na4 rfl rfl rfl rfl ?_
              refine WL.on rfl rfl ?_
              refine fa fl41_6 rfl rfl ?_
              refine WL.on rfl rfl ?_
              refine ld 0 na4 rfl rfl rfl rfl ?_
              refine WL.on rfl rfl ?_
              refine be Try.underlying4 rfl rfl rfl ?_
              refine pkT rfl rfl rfl ?_
              refine mv rfl rfl ?_
              rcases spl h with ⟨k11, h⟩ | ⟨k11, h⟩
              · skip
                refine WL.rb 54 rfl (bt1 k11) ?_
                refine WL.on rfl rfl ?_
                refine fa fl41_7 rfl rfl ?_
                refine WL.on rfl rfl ?_
                refine ld 1 na3 rfl rfl rfl rfl ?_
                refine WL.on rfl rfl ?_
                refine fa fl41_7 rfl rfl ?_
                refine WL.on rfl rfl ?_
                refine ld 0 na3 rfl rfl rfl rfl ?_
                refine WL.on rfl rfl ?_
                refine eq rfl rfl rfl ?_
                refine pkT rfl rfl rfl ?_
                refine mv rfl rfl ?_
                rcases spl h with ⟨k12, h⟩ | ⟨k12, h⟩
                · skip
                  refine WL.rb 61 rfl (bT k12) ?_
                  refine WL.on rfl rfl ?_
                  refine fa fl41_8 rfl rfl ?_
                  refine WL.on rfl rfl ?_
                  refine ld 1 na3 rfl rfl rfl rfl ?_
                  refine WL.on rfl rfl ?_
                  refine fa fl41_8 rfl rfl ?_
                  refine WL.on rfl rfl ?_
                  refine ld 0 na3 rfl rfl rfl rfl ?_
                  refine WL.on rfl rfl ?_
                  refine eq rfl rfl rfl ?_
                  refine pkT rfl rfl rfl ?_
                  refine asg rfl rfl ?_
                  refine WL.del 0 ?_
                  refine WL.del 0 ?_
                  refine WL.next ?_
                  refine WC.ret ?_
                  cases h
                  exact ret1 Try.results38 rfl hI ⟨rfl, rfl⟩
                refine WL.rb 61 rfl (bF k12) ?_
                refine WL.no rfl rfl rfl rfl ?_
                refine WL.no rfl rfl rfl rfl ?_
                refine WL.no rfl rfl rfl rfl ?_
                refine WL.no rfl rfl rfl rfl ?_
                refine WL.no rfl rfl rfl rfl ?_
                refine pkF rfl rfl rfl ?_
                refine asg rfl rfl ?_
                refine WL.del 0 ?_
                refine WL.del 0 ?_
                refine WL.next ?_
                refine WC.ret ?_
                cases h
                exact ret1 Try.results38 rfl hI ⟨rfl, rfl⟩
              refine WL.rb 54 rfl (bf1 k11) ?_
              refine WL.no rfl rfl rfl rfl ?_
              refine WL.no rfl rfl rfl rfl ?_
              refine WL.no rfl rfl rfl rfl ?_
              refine WL.no rfl rfl rfl rfl ?_
              refine WL.no rfl rfl rfl rfl ?_
              refine pkF rfl rfl rfl ?_
              refine mv rfl rfl ?_
              refine WL.no rfl rfl rfl rfl ?_
              refine WL.no rfl rfl rfl rfl ?_
              refine WL.no rfl rfl rfl rfl ?_
              refine WL.no rfl rfl rfl rfl ?_
              refine WL.no rfl rfl rfl rfl ?_
              refine pkF rfl rfl rfl ?_
              refine asg rfl rfl ?_
              refine WL.del 0 ?_
              refine WL.del 0 ?_
              refine WL.next ?_
              refine WC.ret ?_
              cases h
              exact ret1 Try.results38 rfl hI ⟨rfl, rfl⟩
            refine WL.rb 47 rfl (bf1 k10) ?_
            refine WL.no rfl rfl rfl rfl ?_
            refine WL.no rfl rfl rfl rfl ?_
            refine WL.no rfl rfl rfl rfl ?_
            refine WL.no rfl rfl rfl rfl ?_
            refine WL.no rfl rfl rfl rfl ?_
            refine pkF rfl rfl rfl ?_
            refine mv rfl rfl ?_
            refine WL.no rfl rfl rfl rfl ?_
            refine WL.no rfl rfl rfl rfl ?_
            refine WL.no rfl rfl rfl rfl ?_
            refine WL.no rfl rfl rfl rfl ?_
            refine WL.no rfl rfl rfl rfl ?_
            refine pkF rfl rfl rfl ?_
            refine mv rfl rfl ?_
            refine WL.no rfl rfl rfl rfl ?_
            refine WL.no rfl rfl rfl rfl ?_
            refine WL.no rfl rfl rfl rfl ?_
            refine WL.no rfl rfl rfl rfl ?_
            refine WL.no rfl rfl rfl rfl ?_
            refine pkF rfl rfl rfl ?_
            refine asg rfl rfl ?_
            refine WL.del 0 ?_
            refine WL.del 0 ?_
            refine WL.next ?_
            refine WC.ret ?_
            cases h
            exact ret1 Try.results38 rfl hI ⟨rfl, rfl⟩
          refine WL.rb 38 rfl (bF k9) ?_
          refine WL.no rfl rfl rfl rfl ?_
          refine WL.no rfl rfl rfl rfl ?_
          refine WL.no rfl rfl rfl rfl ?_
          refine WL.no rfl rfl rfl rfl ?_
          refine WL.no rfl rfl rfl rfl ?_
          refine WL.no rfl rfl rfl rfl ?_
          refine WL.no rfl rfl rfl rfl ?_
          refine pkF rfl rfl rfl ?_
          refine mv rfl rfl ?_
          refine WL.no rfl rfl rfl rfl ?_
          refine WL.no rfl rfl rfl rfl ?_
          refine WL.no rfl rfl rfl rfl ?_
          refine WL.no rfl rfl rfl rfl ?_
          refine WL.no rfl rfl rfl rfl ?_
          refine pkF rfl rfl rfl ?_
          refine mv rfl rfl ?_
          refine WL.no rfl rfl rfl rfl ?_
          refine WL.no rfl rfl rfl rfl ?_
          refine WL.no rfl rfl rfl rfl ?_
          refine WL.no rfl rfl rfl rfl ?_
          refine WL.no rfl rfl rfl rfl ?_
          refine pkF rfl rfl rfl ?_
          refine mv rfl rfl ?_
          refine WL.no rfl rfl rfl rfl ?_
          refine WL.no rfl rfl rfl rfl ?_
          refine WL.no rfl rfl rfl rfl ?_
          refine WL.no rfl rfl rfl rfl ?_
          refine WL.no rfl rfl rfl rfl ?_
          refine pkF rfl rfl rfl ?_
          refine asg rfl rfl ?_
          refine WL.del 0 ?_
          refine WL.del 0 ?_
          refine WL.next ?_
          refine WC.ret ?_
          cases h
          exact ret1 Try.results38 rfl hI ⟨rfl, rfl⟩
        refine WL.rb 31 rfl (bF k8) ?_
        refine WL.no rfl rfl rfl rfl ?_
        refine WL.no rfl rfl rfl rfl ?_
        refine WL.no rfl rfl rfl rfl ?_
        refine WL.no rfl rfl rfl rfl ?_
        refine WL.no rfl rfl rfl rfl ?_
        refine pkF rfl rfl rfl ?_
        refine mv rfl rfl ?_
        refine WL.no rfl rfl rfl rfl ?_
        refine WL.no rfl rfl rfl rfl ?_
        refine WL.no rfl rfl rfl rfl ?_
        refine WL.no rfl rfl rfl rfl ?_
        refine WL.no rfl rfl rfl rfl ?_
        refine WL.no rfl rfl rfl rfl ?_
        refine WL.no rfl rfl rfl rfl ?_
        refine pkF rfl rfl rfl ?_
        refine mv rfl rfl ?_
        refine WL.no rfl rfl rfl rfl ?_
        refine WL.no rfl rfl rfl rfl ?_
        refine WL.no rfl rfl rfl rfl ?_
        refine WL.no rfl rfl rfl rfl ?_
        refine WL.no rfl rfl rfl rfl ?_
        refine pkF rfl rfl rfl ?_
        refine mv rfl rfl ?_
        refine WL.no rfl rfl rfl rfl ?_
        refine WL.no rfl rfl rfl rfl ?_
        refine WL.no rfl rfl rfl rfl ?_
        refine WL.no rfl rfl rfl rfl ?_
        refine WL.no rfl rfl rfl rfl ?_
        refine pkF rfl rfl rfl ?_
        refine mv rfl rfl ?_
        refine WL.no rfl rfl rfl rfl ?_
        refine WL.no rfl rfl rfl rfl ?_
        refine WL.no rfl rfl rfl rfl ?_
        refine WL.no rfl rfl rfl rfl ?_
        refine WL.no rfl rfl rfl rfl ?_
        refine pkF rfl rfl rfl ?_
        refine asg rfl rfl ?_
        refine WL.del 0 ?_
        refine WL.del 0 ?_
        refine WL.next ?_
        refine WC.ret ?_
        cases h
        exact ret1 Try.results38 rfl hI ⟨rfl, rfl⟩
      refine WL.rb 24 rfl (bF k7) ?_
      refine WL.no rfl rfl rfl rfl ?_
      refine WL.no rfl rfl rfl rfl ?_
      refine WL.no rfl rfl rfl rfl ?_
      refine WL.no rfl rfl rfl rfl ?_
      refine WL.no rfl rfl rfl rfl ?_
      refine pkF rfl rfl rfl ?_
      refine mv rfl rfl ?_
      refine WL.no rfl rfl rfl rfl ?_
      refine WL.no rfl rfl rfl rfl ?_
      refine WL.no rfl rfl rfl rfl ?_
      refine WL.no rfl rfl rfl rfl ?_
      refine WL.no rfl rfl rfl rfl ?_
      refine pkF rfl rfl rfl ?_
      refine mv rfl rfl ?_
      refine WL.no rfl rfl rfl rfl ?_
      refine WL.no rfl rfl rfl rfl ?_
      refine WL.no rfl rfl rfl rfl ?_
      refine WL.no rfl rfl rfl rfl ?_
      refine WL.no rfl rfl rfl rfl ?_
      refine WL.no rfl rfl rfl rfl ?_
      refine WL.no rfl rfl rfl rfl ?_
      refine pkF rfl rfl rfl ?_
      refine mv rfl rfl ?_
      refine WL.no rfl rfl rfl rfl ?_
      refine WL.no rfl rfl rfl rfl ?_
      refine WL.no rfl rfl rfl rfl ?_
      refine WL.no rfl rfl rfl rfl ?_
      refine WL.no rfl rfl rfl rfl ?_
      refine pkF rfl rfl rfl ?_
      refine mv rfl rfl ?_
      refine WL.no rfl rfl rfl rfl ?_
      refine WL.no rfl rfl rfl rfl ?_
      refine WL.no rfl rfl rfl rfl ?_
      refine WL.no rfl rfl rfl rfl ?_
      refine WL.no rfl rfl rfl rfl ?_
      refine pkF rfl rfl rfl ?_
      refine mv rfl rfl ?_
      refine WL.no rfl rfl rfl rfl ?_
      refine WL.no rfl rfl rfl rfl ?_
      refine WL.no rfl rfl rfl rfl ?_
      refine WL.no rfl rfl rfl rfl ?_
      refine WL.no rfl rfl rfl rfl ?_
      refine pkF rfl rfl rfl ?_
      refine asg rfl rfl ?_
      refine WL.del 0 ?_
      refine WL.del 0 ?_
      refine WL.next ?_
      refine WC.ret ?_
      cases h
      exact ret1 Try.results38 rfl hI ⟨rfl, rfl⟩
    refine WL.rb 17 rfl (bF k6) ?_
    refine WL.no rfl rfl rfl rfl ?_
    refine WL.no rfl rfl rfl rfl ?_
    refine WL.no rfl rfl rfl rfl ?_
    refine WL.no rfl rfl rfl rfl ?_
    refine WL.no rfl rfl rfl rfl ?_
    refine pkF rfl rfl rfl ?_
    refine mv rfl rfl ?_
    refine WL.no rfl rfl rfl rfl ?_
    refine WL.no rfl rfl rfl rfl ?_
    refine WL.no rfl rfl rfl rfl ?_
    refine WL.no rfl rfl rfl rfl ?_
    refine WL.no rfl rfl rfl rfl ?_
    refine pkF rfl rfl rfl ?_
    refine mv rfl rfl ?_
    refine WL.no rfl rfl rfl rfl ?_
    refine WL.no rfl rfl rfl rfl ?_
    refine WL.no rfl rfl rfl rfl ?_
    refine WL.no rfl rfl rfl rfl ?_
    refine WL.no rfl rfl rfl rfl ?_
    refine pkF rfl rfl rfl ?_
    refine mv rfl rfl ?_
    refine WL.no rfl rfl rfl rfl ?_
    refine WL.no rfl rfl rfl rfl ?_
    refine WL.no rfl rfl rfl rfl ?_
    refine WL.no rfl rfl rfl rfl ?_
    refine WL.no rfl rfl rfl rfl ?_
    refine WL.no rfl rfl rfl rfl ?_
    refine WL.no rfl rfl rfl rfl ?_
    refine pkF rfl rfl rfl ?_
    refine mv rfl rfl ?_
    refine WL.no rfl rfl rfl rfl ?_
    refine WL.no rfl rfl rfl rfl ?_
    refine WL.no rfl rfl rfl rfl ?_
    refine WL.no rfl rfl rfl rfl ?_
    refine WL.no rfl rfl rfl rfl ?_
    refine pkF rfl rfl rfl ?_
    refine mv rfl rfl ?_
    refine WL.no rfl rfl rfl rfl ?_
    refine WL.no rfl rfl rfl rfl ?_
    refine WL.no rfl rfl rfl rfl ?_
    refine WL.no rfl rfl rfl rfl ?_
    refine WL.no rfl rfl rfl rfl ?_
    refine pkF rfl rfl rfl ?_
    refine mv rfl rfl ?_
    refine WL.no rfl rfl rfl rfl ?_
    refine WL.no rfl rfl rfl rfl ?_
    refine WL.no rfl rfl rfl rfl ?_
    refine WL.no rfl rfl rfl rfl ?_
    refine WL.no rfl rfl rfl rfl ?_
    refine pkF rfl rfl rfl ?_
    refine asg rfl rfl ?_
    refine WL.del 0 ?_
    refine WL.del 0 ?_
    refine WL.next ?_
    refine WC.ret ?_
    cases h
    exact ret1 Try.results38 rfl hI ⟨rfl, rfl⟩
  refine WL.rb 10 rfl (bF k5) ?_
  refine WL.no rfl rfl rfl rfl ?_
  refine WL.no rfl rfl rfl rfl ?_
  refine WL.no rfl rfl rfl rfl ?_
  refine WL.no rfl rfl rfl rfl ?_
  refine WL.no rfl rfl rfl rfl ?_
  refine pkF rfl rfl rfl ?_
  refine mv rfl rfl ?_
  refine WL.no rfl rfl rfl rfl ?_
  refine WL.no rfl rfl rfl rfl ?_
  refine WL.no rfl rfl rfl rfl ?_
  refine WL.no rfl rfl rfl rfl ?_
  refine WL.no rfl rfl rfl rfl ?_
  refine pkF rfl rfl rfl ?_
  refine mv rfl rfl ?_
  refine WL.no rfl rfl rfl rfl ?_
  refine WL.no rfl rfl rfl rfl ?_
  refine WL.no rfl rfl rfl rfl ?_
  refine WL.no rfl rfl rfl rfl ?_
  refine WL.no rfl rfl rfl rfl ?_
  refine pkF rfl rfl rfl ?_
  refine mv rfl rfl ?_
  refine WL.no rfl rfl rfl rfl ?_
  refine WL.no rfl rfl rfl rfl ?_
  refine WL.no rfl rfl rfl rfl ?_
  refine WL.no rfl rfl rfl rfl ?_
  refine WL.no rfl rfl rfl rfl ?_
  refine pkF rfl rfl rfl ?_
  refine mv rfl rfl ?_
  refine WL.no rfl rfl rfl rfl ?_
  refine WL.no rfl rfl rfl rfl ?_
  refine WL.no rfl rfl rfl rfl ?_
  refine WL.no rfl rfl rfl rfl ?_
  refine WL.no rfl rfl rfl rfl ?_
  refine WL.no rfl rfl rfl rfl ?_
  refine WL.no rfl rfl rfl rfl ?_
  refine pkF rfl rfl rfl ?_
  refine mv rfl rfl ?_
  refine WL.no rfl rfl rfl rfl ?_
  refine WL.no rfl rfl rfl rfl ?_
  refine WL.no rfl rfl rfl rfl ?_
  refine WL.no rfl rfl rfl rfl ?_
  refine WL.no rfl rfl rfl rfl ?_
  refine pkF rfl rfl rfl ?_
  refine mv rfl rfl ?_
  refine WL.no rfl rfl rfl rfl ?_
  refine WL.no rfl rfl rfl rfl ?_
  refine WL.no rfl rfl rfl rfl ?_
  refine WL.no rfl rfl rfl rfl ?_
  refine WL.no rfl rfl rfl rfl ?_
  refine pkF rfl rfl rfl ?_
  refine mv rfl rfl ?_
  refine WL.no rfl rfl rfl rfl ?_
  refine WL.no rfl rfl rfl rfl ?_
  refine WL.no rfl rfl rfl rfl ?_
  refine WL.no rfl rfl rfl rfl ?_
  refine WL.no rfl rfl rfl rfl ?_
  refine pkF rfl rfl rfl ?_
  refine asg rfl rfl ?_
  refine WL.del 0 ?_
  refine WL.del 0 ?_
  refine WL.next ?_
  refine WC.ret ?_
  cases h
  exact ret1 Try.results38 rfl hI ⟨rfl, rfl⟩
theorem W46 {I : Mem} {G : List Asn} {p0 : List UInt8} {r : span_Reader} (h : span_New p0 = some r) {u0 : Value} (hp0 : IV I u0 p0) :
    CallsS Try.prog 46 #[u0] I (G) (fun v J G' => ∃ rg0, v = .pointer (some ⟨rg0, 0, none⟩) ∧ Ob_span_Reader rg0 r :: G = G') := by
  refine CallsS.enter Try.func46 rfl Try.ntmps46 rfl (fun w0 => ?_)
  have hI := Mem.le.refl I
  obtain ⟨a0, c0, rfl⟩ := hp0.hd
  unfold span_New at h
  refine WC.seq ?_
  refine WC.region ?_
  refine asg rfl rfl ?_
  refine WL.next ?_
  refine WC.seq ?_
  refine WC.region ?_
  refine mv rfl rfl ?_
  obtain ⟨x1, e2, h⟩ := bnd h
  refine call cl57 rfl rfl (W57 e2 hp0) (fun _ J3 _ hJ4 q5 => ?_)
  have hI := hI.trans hJ4
  replace hp0 := hp0.up hJ4
  obtain ⟨a6, c7, rfl, rfl⟩ := q5
  refine bu bt94 rfl rfl rfl ?_
  refine bx rfl rfl rfl (fun g9 => ?_)
  refine asg rfl rfl ?_
  refine WL.next ?_
  refine WC.ret ?_
  refine WX.front 1 ?_
  refine WX.freeze (fun J11 hJ12 h13 => ?_)
  have hI := hI.trans hJ12
  refine WX.shut_span_Reader (⟨x1, 0, false⟩ : span_Reader) h13 ?_
  cases h
  exact ret1 Try.results46 rfl hI ⟨_, rfl, rfl⟩
end Go.Proofs.Ytgobccnphhljcaa
