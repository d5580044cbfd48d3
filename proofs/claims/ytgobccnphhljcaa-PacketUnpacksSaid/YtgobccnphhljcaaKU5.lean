/- Printed by a program of this session: walks of Go functions. -/
import Derived.Test.YtgobccnphhljcaaKf
import Derived.Test.YtgobccnphhljcaaDf
import Derived.Test.YtgobccnphhljcaaKU2
import Derived.Test.YtgobccnphhljcaaKU3
import Derived.Test.YtgobccnphhljcaaKU4
namespace Go.Proofs.Ytgobccnphhljcaa
set_option linter.unusedVariables false
set_option maxRecDepth 10000
set_option maxHeartbeats 2000000
theorem W51 {I : Mem} {G : List Asn} {p0 : haulierref01_Reader} {r : api_Packet × Bool × haulierref01_Reader} (h : haulierref01_TakePacket p0 = some r) {g0 : Nat} :
    CallsS Try.prog 51 #[.pointer (some ⟨g0, 0, none⟩)] I (Ob_haulierref01_Reader g0 p0 :: G) (fun v J G' => ∃ ra0_5 rc0_5, v = .tuple #[.agg #[.int .i64 r.1.Kind, .int .i64 r.1.Path, .int .i64 r.1.Number, .int .i64 r.1.Of, .int .i64 r.1.From, .slice ra0_5 r.1.Data.length rc0_5, .bool r.1.Fin, .int .i64 r.1.Seen, .int .i64 r.1.Limit], .bool r.2.1] ∧ IV J (.slice ra0_5 r.1.Data.length rc0_5) r.1.Data ∧ Ob_haulierref01_Reader g0 (r.2.2) :: G = G') := by
  refine CallsS.enter Try.func51 rfl Try.ntmps51 rfl (fun w0 => ?_)
  have hI := Mem.le.refl I
  unfold haulierref01_TakePacket at h
  refine WC.seq ?_
  refine WC.region ?_
  refine al Try.zeroValue41 rfl (fun g2 => ?_)
  refine asg rfl rfl ?_
  refine WL.next ?_
  refine WC.seq ?_
  refine WC.region ?_
  refine mv rfl rfl ?_
  refine nc rfl rfl ?_
  refine fa fl78_1 rfl rfl ?_
  refine WL.front 1 ?_
  refine WL.open_haulierref01_Reader (fun a4 c5 h6 => ?_)
  refine ld 0 na3 rfl rfl rfl rfl ?_
  refine asg rfl rfl ?_
  refine WL.next ?_
  refine WC.seq ?_
  refine WC.region ?_
  refine mv rfl rfl ?_
  refine WL.shut_haulierref01_Reader (⟨p0.B, p0.At, p0.Bad⟩ : haulierref01_Reader) h6 ?_
  obtain ⟨⟨x7, s8⟩, e9, h⟩ := bnd h
  refine call cl76 rfl rfl (W76 e9) (fun _ J10 _ hJ11 q12 => ?_)
  have hI := hI.trans hJ11
  obtain ⟨rfl, rfl⟩ := q12
  refine cv8i Try.underlying5 Try.underlying3 rfl rfl ?_
  refine bu bt41 rfl rfl rfl ?_
  refine al Try.zeroValue41 rfl (fun g13 => ?_)
  refine sta (C' := #[(.int .i64 (x7.toNat : Int)), (.int .i64 0), (.int .i64 0), (.int .i64 0), (.int .i64 0), (.slice none 0 0), (.bool false), (.int .i64 0), (.int .i64 0)]) sz41 rfl rfl rfl rfl rfl rfl ?_
  refine WL.next ?_
  refine WC.seq ?_
  refine WC.region ?_
  refine mv rfl rfl ?_
  refine WL.front 1 ?_
  obtain ⟨⟨x15, s16⟩, e17, h⟩ := bnd h
  refine call cl77 rfl rfl (W77 e17) (fun _ J18 _ hJ19 q20 => ?_)
  have hI := hI.trans hJ19
  obtain ⟨rfl, rfl⟩ := q20
  refine fa fl41_1 rfl rfl ?_
  refine WL.front 1 ?_
  refine st (C' := #[(.int .i64 (x7.toNat : Int)), (.int .i64 x15), (.int .i64 0), (.int .i64 0), (.int .i64 0), (.slice none 0 0), (.bool false), (.int .i64 0), (.int .i64 0)]) sz3 rfl rfl rfl rfl rfl ?_
  refine WL.next ?_
  refine WC.seq ?_
  refine WC.region ?_
  refine mv rfl rfl ?_
  refine WL.front 1 ?_
  obtain ⟨⟨x21, s22⟩, e23, h⟩ := bnd h
  refine call cl77 rfl rfl (W77 e23) (fun _ J24 _ hJ25 q26 => ?_)
  have hI := hI.trans hJ25
  obtain ⟨rfl, rfl⟩ := q26
  refine fa fl41_2 rfl rfl ?_
  refine WL.front 1 ?_
  refine st (C' := #[(.int .i64 (x7.toNat : Int)), (.int .i64 x15), (.int .i64 x21), (.int .i64 0), (.int .i64 0), (.slice none 0 0), (.bool false), (.int .i64 0), (.int .i64 0)]) sz3 rfl rfl rfl rfl rfl ?_
  refine WL.next ?_
  refine WC.seq ?_
  refine WC.seq ?_
  refine WC.region ?_
  refine fa fl41_0 rfl rfl ?_
  refine ld 0 na3 rfl rfl rfl rfl ?_
  refine WL.next ?_
  obtain ⟨j85, hj85, h⟩ := bnd h
  refine WC.joinQ (σ := haulierref01_Reader × Int × Int × (List UInt8) × Bool × Int × Int × (Option Addr) × Nat) (fun (s75, x76, x77, x78, x82, x83, x84, a79, c80) => [(0, (.pointer (some ⟨g0, 0, none⟩))), (2, (.pointer (some ⟨g2, 0, none⟩))), (4, (.int .i64 p0.At)), (5, (.pointer (some ⟨g13, 0, none⟩)))]) (fun (s75, x76, x77, x78, x82, x83, x84, a79, c80) => bl g13 #[(.int .i64 (x7.toNat : Int)), (.int .i64 x15), (.int .i64 x21), (.int .i64 x76), (.int .i64 x77), (.slice a79 x78.length c80), (.bool x82), (.int .i64 x83), (.int .i64 x84)] 41 :: Ob_haulierref01_Reader g0 s75 :: bl g2 #[(.int .i64 0), (.int .i64 0), (.int .i64 0), (.int .i64 0), (.int .i64 0), (.slice none 0 0), (.bool false), (.int .i64 0), (.int .i64 0)] 41 :: G) (fun (s75, x76, x77, x78, x82, x83, x84, a79, c80) J => (s75, x76, x77, x78, x82, x83, x84) = j85 ∧ IV J (.slice a79 x78.length c80) x78) (fun kj85 => ?_) ?_
  · skip
    have lj85 := Mem.le.refl J24
    refine WC.block ?_
    refine WC.seq ?_
    refine WC.region ?_
    refine eq rfl rfl rfl ?_
    refine asg rfl rfl ?_
    refine WL.next ?_
    refine WC.ite rfl hj85 (fun k86 hj85 => ?_) (fun k86 hj85 => ?_)
    · skip
      refine WC.region ?_
      refine mv rfl rfl ?_
      refine WL.front 1 ?_
      obtain ⟨⟨x87, s88⟩, e89, hj85⟩ := bnd hj85
      refine call cl77 rfl rfl (W77 e89) (fun _ J90 _ hJ91 q92 => ?_)
      have hI := hI.trans hJ91
      have lj85 := lj85.trans hJ91
      obtain ⟨rfl, rfl⟩ := q92
      refine fa fl41_3 rfl rfl ?_
      refine WL.front 1 ?_
      refine st (C' := #[(.int .i64 (x7.toNat : Int)), (.int .i64 x15), (.int .i64 x21), (.int .i64 x87), (.int .i64 0), (.slice none 0 0), (.bool false), (.int .i64 0), (.int .i64 0)]) sz3 rfl rfl rfl rfl rfl ?_
      refine WL.nil ?_
      refine WX.block_normal ?_
      refine WX.front 2 ?_
      refine WX.front 2 ?_
      refine WX.front 2 ?_
      exact (kj85 ⟨s88, x87, 0, ([] : List UInt8), false, 0, 0, _, _⟩ _ lj85 ⟨Option.some.inj hj85, (IV.nil _ : IV _ _ ([] : List UInt8))⟩).sub ⟨rfl, rfl, rfl, rfl, trivial⟩
    refine WC.seq ?_
    refine WC.region ?_
    refine eq rfl rfl rfl ?_
    refine asg rfl rfl ?_
    refine WL.next ?_
    refine WC.ite rfl hj85 (fun k93 hj85 => ?_) (fun k93 hj85 => ?_)
    · skip
      refine WC.seq ?_
      refine WC.region ?_
      refine mv rfl rfl ?_
      refine WL.front 1 ?_
      obtain ⟨⟨x94, s95⟩, e96, hj85⟩ := bnd hj85
      refine call cl77 rfl rfl (W77 e96) (fun _ J97 _ hJ98 q99 => ?_)
      have hI := hI.trans hJ98
      have lj85 := lj85.trans hJ98
      obtain ⟨rfl, rfl⟩ := q99
      refine fa fl41_4 rfl rfl ?_
      refine WL.front 1 ?_
      refine st (C' := #[(.int .i64 (x7.toNat : Int)), (.int .i64 x15), (.int .i64 x21), (.int .i64 0), (.int .i64 x94), (.slice none 0 0), (.bool false), (.int .i64 0), (.int .i64 0)]) sz3 rfl rfl rfl rfl rfl ?_
      refine WL.next ?_
      refine WC.seq ?_
      refine WC.region ?_
      refine mv rfl rfl ?_
      refine WL.front 1 ?_
      obtain ⟨⟨x100, s101⟩, e102, hj85⟩ := bnd hj85
      refine call cl78 rfl rfl (W78 e102) (fun _ J103 _ hJ104 q105 => ?_)
      have hI := hI.trans hJ104
      have lj85 := lj85.trans hJ104
      obtain ⟨a106, c107, rfl, rfl⟩ := q105
      refine fa fl41_5 rfl rfl ?_
      refine WL.front 2 ?_
      refine st (C' := #[(.int .i64 (x7.toNat : Int)), (.int .i64 x15), (.int .i64 x21), (.int .i64 0), (.int .i64 x94), (.slice a106 x100.length c107), (.bool false), (.int .i64 0), (.int .i64 0)]) sz22 rfl rfl rfl rfl rfl ?_
      refine WL.next ?_
      refine WC.region ?_
      refine mv rfl rfl ?_
      refine WL.front 2 ?_
      obtain ⟨⟨x109, s110⟩, e111, hj85⟩ := bnd hj85
      refine call cl76 rfl rfl (W76 e111) (fun _ J112 _ hJ113 q114 => ?_)
      have hI := hI.trans hJ113
      have lj85 := lj85.trans hJ113
      obtain ⟨rfl, rfl⟩ := q114
      refine eq rfl rfl rfl ?_
      refine fa fl41_6 rfl rfl ?_
      refine WL.front 1 ?_
      refine st (C' := #[(.int .i64 (x7.toNat : Int)), (.int .i64 x15), (.int .i64 x21), (.int .i64 0), (.int .i64 x94), (.slice a106 x100.length c107), (.bool (decide ((x109.toNat : Int) = 1))), (.int .i64 0), (.int .i64 0)]) sz4 rfl rfl rfl rfl rfl ?_
      refine WL.nil ?_
      refine WX.block_normal ?_
      refine WX.front 2 ?_
      refine WX.freeze (fun J115 hJ116 h117 => ?_)
      have hI := hI.trans hJ116
      have lj85 := lj85.trans hJ116
      refine WX.front 2 ?_
      refine WX.front 2 ?_
      refine WX.front 2 ?_
      exact (kj85 ⟨s110, 0, x94, x100, (decide ((x109.toNat : Int) = 1)), 0, 0, _, _⟩ _ lj85 ⟨Option.some.inj hj85, h117⟩).sub ⟨rfl, rfl, rfl, rfl, trivial⟩
    refine WC.seq ?_
    refine WC.region ?_
    refine eq rfl rfl rfl ?_
    refine asg rfl rfl ?_
    refine WL.next ?_
    refine WC.ite rfl hj85 (fun k118 hj85 => ?_) (fun k118 hj85 => ?_)
    · skip
      refine WC.seq ?_
      refine WC.region ?_
      refine mv rfl rfl ?_
      refine WL.front 1 ?_
      obtain ⟨⟨x119, s120⟩, e121, hj85⟩ := bnd hj85
      refine call cl77 rfl rfl (W77 e121) (fun _ J122 _ hJ123 q124 => ?_)
      have hI := hI.trans hJ123
      have lj85 := lj85.trans hJ123
      obtain ⟨rfl, rfl⟩ := q124
      refine fa fl41_3 rfl rfl ?_
      refine WL.front 1 ?_
      refine st (C' := #[(.int .i64 (x7.toNat : Int)), (.int .i64 x15), (.int .i64 x21), (.int .i64 x119), (.int .i64 0), (.slice none 0 0), (.bool false), (.int .i64 0), (.int .i64 0)]) sz3 rfl rfl rfl rfl rfl ?_
      refine WL.next ?_
      refine WC.seq ?_
      refine WC.region ?_
      refine mv rfl rfl ?_
      refine WL.front 1 ?_
      obtain ⟨⟨x125, s126⟩, e127, hj85⟩ := bnd hj85
      refine call cl77 rfl rfl (W77 e127) (fun _ J128 _ hJ129 q130 => ?_)
      have hI := hI.trans hJ129
      have lj85 := lj85.trans hJ129
      obtain ⟨rfl, rfl⟩ := q130
      refine fa fl41_7 rfl rfl ?_
      refine WL.front 1 ?_
      refine st (C' := #[(.int .i64 (x7.toNat : Int)), (.int .i64 x15), (.int .i64 x21), (.int .i64 x119), (.int .i64 0), (.slice none 0 0), (.bool false), (.int .i64 x125), (.int .i64 0)]) sz3 rfl rfl rfl rfl rfl ?_
      refine WL.next ?_
      refine WC.region ?_
      refine mv rfl rfl ?_
      refine WL.front 1 ?_
      obtain ⟨⟨x131, s132⟩, e133, hj85⟩ := bnd hj85
      refine call cl77 rfl rfl (W77 e133) (fun _ J134 _ hJ135 q136 => ?_)
      have hI := hI.trans hJ135
      have lj85 := lj85.trans hJ135
      obtain ⟨rfl, rfl⟩ := q136
      refine fa fl41_8 rfl rfl ?_
      refine WL.front 1 ?_
      refine st (C' := #[(.int .i64 (x7.toNat : Int)), (.int .i64 x15), (.int .i64 x21), (.int .i64 x119), (.int .i64 0), (.slice none 0 0), (.bool false), (.int .i64 x125), (.int .i64 x131)]) sz3 rfl rfl rfl rfl rfl ?_
      refine WL.nil ?_
      refine WX.block_normal ?_
      refine WX.front 2 ?_
      refine WX.front 2 ?_
      refine WX.front 2 ?_
      exact (kj85 ⟨s132, x119, 0, ([] : List UInt8), false, x125, x131, _, _⟩ _ lj85 ⟨Option.some.inj hj85, (IV.nil _ : IV _ _ ([] : List UInt8))⟩).sub ⟨rfl, rfl, rfl, rfl, trivial⟩
    refine WC.skip ?_
    refine WX.block_normal ?_
    refine WX.front 2 ?_
    refine WX.front 2 ?_
    refine WX.front 2 ?_
    exact (kj85 ⟨s22, 0, 0, ([] : List UInt8), false, 0, 0, _, _⟩ _ lj85 ⟨Option.some.inj hj85, (IV.nil _ : IV _ _ ([] : List UInt8))⟩).sub ⟨rfl, rfl, rfl, rfl, trivial⟩
  rintro ⟨s75, x76, x77, x78, x82, x83, x84, a79, c80⟩ J137 hJ138 ⟨rfl, h81⟩
  have hI := hI.trans hJ138
  refine WX.then_ ?_
  refine WC.seq ?_
  refine WC.region ?_
  refine lda 0 ya41 rfl rfl rfl rfl rfl ?_
  obtain ⟨⟨x139, x140⟩, e141, h⟩ := bnd h
  refine call cl36 rfl rfl (W36 e141 h81) (fun _ J142 _ hJ143 q144 => ?_)
  have hI := hI.trans hJ143
  replace h81 := h81.up hJ143
  obtain ⟨a145, c146, rfl, rfl⟩ := q144
  refine mv rfl rfl ?_
  refine ex rfl rfl rfl ?_
  refine ex rfl rfl rfl ?_
  refine asg rfl rfl ?_
  refine asg rfl rfl ?_
  refine WL.next ?_
  refine WC.seq ?_
  refine WC.seq ?_
  refine WC.front 2 ?_
  refine WC.open_haulierref01_Reader (fun a148 c149 h150 => ?_)
  refine WC.sub (r := [(0, (.pointer (some ⟨g0, 0, none⟩))), (2, (.pointer (some ⟨g2, 0, none⟩))), (4, (.int .i64 p0.At)), (5, (.pointer (some ⟨g13, 0, none⟩))), (6, (.slice a145 x139.length c146)), (7, (.bool x140))]) ?_ ⟨rfl, rfl, rfl, rfl, rfl, rfl, trivial⟩
  rcases spl h with ⟨k151, h⟩ | ⟨k151, h⟩
  · skip
    refine WC.drawn mo (nthL [[], [0], [0, 1], [0, 1, 2], [0, 1, 2, 3], [0, 1, 2, 3, 4], [0, 1, 2, 3, 4, 5], [0, 1, 2, 3, 4, 5, 6], [0, 1, 2, 3, 4, 5, 6, 7], [0, 1, 2, 3, 4, 5, 6, 7, 8], [0, 1, 2, 3, 4, 5, 6, 7, 8, 9], [0, 1, 2, 3, 4, 5, 6, 7, 8], [0, 1, 2, 3, 4, 5, 6, 7, 8, 11], [0, 1, 2, 3, 4, 5, 6, 7, 8, 11, 12], [0, 1, 2, 3, 4, 5, 6, 7, 8, 11, 12, 13], [0, 1, 2, 3, 4, 5, 6, 7, 8], [0, 1, 2, 3, 4, 5, 6, 7, 8], [0, 1, 2, 3, 4, 5, 6, 7, 8, 16], [0, 1, 2, 3, 4, 5, 6, 7, 8, 16, 17], [0, 1, 2, 3, 4, 5, 6, 7, 8, 16, 17, 18], [0, 1, 2, 3, 4, 5, 6, 7, 8, 11, 12, 13, 14, 15, 16, 17, 18, 19], [0, 1, 2, 3, 4, 5, 6, 7, 8, 11, 12, 13, 14, 15, 16, 17, 18, 19, 20], [0, 1, 2, 3, 4, 5, 6, 7, 8, 9, 10, 11, 12, 13, 14, 15, 16, 17, 18, 19, 20, 21], [0, 1, 2, 3, 4, 5, 6, 7, 8, 9, 10, 11, 12, 13, 14, 15, 16, 17, 18, 19, 20, 21, 22]]) (nthL [[], [0], [1], [2], [3], [4], [4], [4, 6], [7], [8], [8], [8], [8], [8], [8], [8], [8], [8], [8], [8], [8], [8], [8], [8, 22]]) (nthK [.val (.pointer (some ⟨g0, 0, none⟩)), .val (.pointer (some ⟨g0, 0, none⟩)), .val (.pointer (some ⟨g0, 2, none⟩)), .val (.bool s75.Bad), .val (.bool true), .val undef, .val undef, .val (.bool true), .val (.bool true), .val undef, .val undef, .val undef, .val undef, .val undef, .val undef, .val undef, .val undef, .val undef, .val undef, .val undef, .val undef, .val undef, .val undef, .val (.bool true)]) [⟨none, none, [3], [], fun _ => bl g0 #[(.slice a148 s75.B.length c149), (.int .i64 s75.At), (.bool s75.Bad)] 78⟩] (by kernel_rfl) (by kernel_rfl) (by kernel_rfl) (H := OV 5 (.slice a145 x139.length c146) x139 :: bl g13 #[(.int .i64 (x7.toNat : Int)), (.int .i64 x15), (.int .i64 x21), (.int .i64 x76), (.int .i64 x77), (.slice a79 x78.length c80), (.bool x82), (.int .i64 x83), (.int .i64 x84)] 41 :: bl g2 #[(.int .i64 0), (.int .i64 0), (.int .i64 0), (.int .i64 0), (.int .i64 0), (.slice none 0 0), (.bool false), (.int .i64 0), (.int .i64 0)] 41 :: G) rfl ⟨?_, ?_, ?_, ?_, ?_, ?_, ?_, ?_, ?_, ?_, ?_, ?_, ?_, ?_, ?_, ?_, ?_, ?_, ?_, ?_, ?_, ?_, ?_, ?_, trivial⟩ ?_
    · intro Q ρ I1 H hI1 hk hpost
      have hc := Mem.le.refl I1
      refine mv rfl rfl ?_
      refine WL.nil ?_
      exact hpost _ _ hc rfl _ (fun _ hd => by obtain rfl := Option.some.inj hd; exact ⟨rfl, trivial⟩)
    · intro Q ρ I1 H hI1 hk hpost
      obtain ⟨_, -⟩ := hk
      have hc := Mem.le.refl I1
      refine nc rfl rfl ?_
      refine WL.nil ?_
      exact hpost _ _ hc rfl _ (fun _ hd => by obtain rfl := Option.some.inj hd; exact ⟨rfl, trivial⟩)
    · intro Q ρ I1 H hI1 hk hpost
      obtain ⟨_, -⟩ := hk
      have hc := Mem.le.refl I1
      refine fa fl78_2 rfl rfl ?_
      refine WL.nil ?_
      exact hpost _ _ hc rfl _ (fun _ hd => by obtain rfl := Option.some.inj hd; exact ⟨rfl, trivial⟩)
    · intro Q ρ I1 H hI1 hk hpost
      obtain ⟨_, -⟩ := hk
      have hc := Mem.le.refl I1
      refine ld 0 na4 rfl rfl rfl rfl ?_
      refine WL.nil ?_
      exact hpost _ _ hc rfl _ (fun _ hd => by obtain rfl := Option.some.inj hd; exact ⟨rfl, trivial⟩)
    · intro Q ρ I1 H hI1 hk hpost
      obtain ⟨_, -⟩ := hk
      have hc := Mem.le.refl I1
      refine mv rfl rfl ?_
      refine WL.nil ?_
      exact hpost _ _ hc (bt1 k151) _ (fun _ hd => by obtain rfl := Option.some.inj hd; exact ⟨rfl, trivial⟩)
    · intro Q ρ I1 H hI1 hk hpost
      obtain ⟨_, -⟩ := hk
      have hc := Mem.le.refl I1
      refine WL.no rfl rfl rfl rfl ?_
      refine WL.nil ?_
      exact hpost _ _ hc rfl _ (fun _ hd => by obtain rfl := Option.some.inj hd; exact ⟨rfl, trivial⟩)
    · intro Q ρ I1 H hI1 hk hpost
      obtain ⟨_, -⟩ := hk
      have hc := Mem.le.refl I1
      refine WL.no rfl rfl rfl rfl ?_
      refine WL.nil ?_
      exact hpost _ _ hc rfl _ (fun _ hd => by obtain rfl := Option.some.inj hd; exact ⟨rfl, trivial⟩)
    · intro Q ρ I1 H hI1 hk hpost
      obtain ⟨_, _, -⟩ := hk
      have hc := Mem.le.refl I1
      refine pkT rfl rfl rfl ?_
      refine WL.nil ?_
      exact hpost _ _ hc rfl _ (fun _ hd => by obtain rfl := Option.some.inj hd; exact ⟨rfl, trivial⟩)
    · intro Q ρ I1 H hI1 hk hpost
      obtain ⟨_, -⟩ := hk
      have hc := Mem.le.refl I1
      refine mv rfl rfl ?_
      refine WL.nil ?_
      exact hpost _ _ hc rfl _ (fun _ hd => by obtain rfl := Option.some.inj hd; exact ⟨rfl, trivial⟩)
    · intro Q ρ I1 H hI1 hk hpost
      obtain ⟨_, -⟩ := hk
      have hc := Mem.le.refl I1
      refine WL.no rfl rfl rfl rfl ?_
      refine WL.nil ?_
      exact hpost _ _ hc rfl _ (fun _ hd => by obtain rfl := Option.some.inj hd; exact ⟨rfl, trivial⟩)
    · intro Q ρ I1 H hI1 hk hpost
      obtain ⟨_, -⟩ := hk
      have hc := Mem.le.refl I1
      refine WL.no rfl rfl rfl rfl ?_
      refine WL.nil ?_
      exact hpost _ _ hc rfl _ (fun _ hd => by obtain rfl := Option.some.inj hd; exact ⟨rfl, trivial⟩)
    · intro Q ρ I1 H hI1 hk hpost
      obtain ⟨_, -⟩ := hk
      have hc := Mem.le.refl I1
      refine WL.no rfl rfl rfl rfl ?_
      refine WL.nil ?_
      exact hpost _ _ hc rfl _ (fun _ hd => by obtain rfl := Option.some.inj hd; exact ⟨rfl, trivial⟩)
    · intro Q ρ I1 H hI1 hk hpost
      obtain ⟨_, -⟩ := hk
      have hc := Mem.le.refl I1
      refine WL.no rfl rfl rfl rfl ?_
      refine WL.nil ?_
      exact hpost _ _ hc rfl _ (fun _ hd => by obtain rfl := Option.some.inj hd; exact ⟨rfl, trivial⟩)
    · intro Q ρ I1 H hI1 hk hpost
      obtain ⟨_, -⟩ := hk
      have hc := Mem.le.refl I1
      refine WL.no rfl rfl rfl rfl ?_
      refine WL.nil ?_
      exact hpost _ _ hc rfl _ (fun _ hd => by obtain rfl := Option.some.inj hd; exact ⟨rfl, trivial⟩)
    · intro Q ρ I1 H hI1 hk hpost
      obtain ⟨_, -⟩ := hk
      have hc := Mem.le.refl I1
      refine WL.no rfl rfl rfl rfl ?_
      refine WL.nil ?_
      exact hpost _ _ hc rfl _ (fun _ hd => by obtain rfl := Option.some.inj hd; exact ⟨rfl, trivial⟩)
    · intro Q ρ I1 H hI1 hk hpost
      obtain ⟨_, -⟩ := hk
      have hc := Mem.le.refl I1
      refine WL.no rfl rfl rfl rfl ?_
      refine WL.nil ?_
      exact hpost _ _ hc rfl _ (fun _ hd => by obtain rfl := Option.some.inj hd; exact ⟨rfl, trivial⟩)
    · intro Q ρ I1 H hI1 hk hpost
      obtain ⟨_, -⟩ := hk
      have hc := Mem.le.refl I1
      refine WL.no rfl rfl rfl rfl ?_
      refine WL.nil ?_
      exact hpost _ _ hc rfl _ (fun _ hd => by obtain rfl := Option.some.inj hd; exact ⟨rfl, trivial⟩)
    · intro Q ρ I1 H hI1 hk hpost
      obtain ⟨_, -⟩ := hk
      have hc := Mem.le.refl I1
      refine WL.no rfl rfl rfl rfl ?_
      refine WL.nil ?_
      exact hpost _ _ hc rfl _ (fun _ hd => by obtain rfl := Option.some.inj hd; exact ⟨rfl, trivial⟩)
    · intro Q ρ I1 H hI1 hk hpost
      obtain ⟨_, -⟩ := hk
      have hc := Mem.le.refl I1
      refine WL.no rfl rfl rfl rfl ?_
      refine WL.nil ?_
      exact hpost _ _ hc rfl _ (fun _ hd => by obtain rfl := Option.some.inj hd; exact ⟨rfl, trivial⟩)
    · intro Q ρ I1 H hI1 hk hpost
      obtain ⟨_, -⟩ := hk
      have hc := Mem.le.refl I1
      refine WL.no rfl rfl rfl rfl ?_
      refine WL.nil ?_
      exact hpost _ _ hc rfl _ (fun _ hd => by obtain rfl := Option.some.inj hd; exact ⟨rfl, trivial⟩)
    · intro Q ρ I1 H hI1 hk hpost
      obtain ⟨_, -⟩ := hk
      have hc := Mem.le.refl I1
      refine WL.no rfl rfl rfl rfl ?_
      refine WL.nil ?_
      exact hpost _ _ hc rfl _ (fun _ hd => by obtain rfl := Option.some.inj hd; exact ⟨rfl, trivial⟩)
    · intro Q ρ I1 H hI1 hk hpost
      obtain ⟨_, -⟩ := hk
      have hc := Mem.le.refl I1
      refine WL.no rfl rfl rfl rfl ?_
      refine WL.nil ?_
      exact hpost _ _ hc rfl _ (fun _ hd => by obtain rfl := Option.some.inj hd; exact ⟨rfl, trivial⟩)
    · intro Q ρ I1 H hI1 hk hpost
      obtain ⟨_, -⟩ := hk
      have hc := Mem.le.refl I1
      refine WL.no rfl rfl rfl rfl ?_
      refine WL.nil ?_
      exact hpost _ _ hc rfl _ (fun _ hd => by obtain rfl := Option.some.inj hd; exact ⟨rfl, trivial⟩)
    · intro Q ρ I1 H hI1 hk hpost
      obtain ⟨_, _, -⟩ := hk
      have hc := Mem.le.refl I1
      refine pkT rfl rfl rfl ?_
      refine WL.nil ?_
      exact hpost _ _ hc rfl _ (fun _ hd => by obtain rfl := Option.some.inj hd; exact ⟨rfl, trivial⟩)
    rintro ρ J152 hJ153 -
    refine WX.sub (r := [(2, (.pointer (some ⟨g2, 0, none⟩))), (5, (.pointer (some ⟨g13, 0, none⟩))), (80, (.bool true))]) ?_ ⟨rfl, rfl, rfl, trivial⟩
    refine WX.is (H := bl g0 #[(.slice a148 s75.B.length c149), (.int .i64 s75.At), (.bool s75.Bad)] 78 :: OV 5 (.slice a145 x139.length c146) x139 :: bl g13 #[(.int .i64 (x7.toNat : Int)), (.int .i64 x15), (.int .i64 x21), (.int .i64 x76), (.int .i64 x77), (.slice a79 x78.length c80), (.bool x82), (.int .i64 x83), (.int .i64 x84)] 41 :: bl g2 #[(.int .i64 0), (.int .i64 0), (.int .i64 0), (.int .i64 0), (.int .i64 0), (.slice none 0 0), (.bool false), (.int .i64 0), (.int .i64 0)] 41 :: G) rfl ?_
    have hI := hI.trans hJ153
    replace h150 := h150.up hJ153; replace h81 := h81.up hJ153
    refine WX.then_ ?_
    refine WC.cond rfl (fun _ => ?_) (fun k => by cases k)
    refine WC.seq ?_
    refine WC.region ?_
    refine bu bt41 rfl rfl rfl ?_
    refine WL.front 3 ?_
    refine sta (C' := #[(.int .i64 0), (.int .i64 0), (.int .i64 0), (.int .i64 0), (.int .i64 0), (.slice none 0 0), (.bool false), (.int .i64 0), (.int .i64 0)]) sz41 rfl rfl rfl rfl rfl rfl ?_
    refine asg rfl rfl ?_
    refine WL.del 2 ?_
    refine WL.del 2 ?_
    refine WL.next ?_
    refine WC.ret ?_
    refine WX.then_ret ?_
    refine WX.front 1 ?_
    refine WX.shut_haulierref01_Reader (⟨s75.B, s75.At, s75.Bad⟩ : haulierref01_Reader) h150 ?_
    cases h
    exact retC2x Try.results51 (fun a w ha hw => ⟨RC.cellA ha hw 1 rfl ya41 rfl rfl, RC.tmp ha rfl⟩) (fun w hw => hw |>.del 1) hI ⟨_, _, rfl, (IV.nil _ : IV _ _ ([] : List UInt8)), rfl⟩
  rcases spl h with ⟨k154, h⟩ | ⟨k154, h⟩
  · skip
    obtain ⟨y155, e156, h⟩ := bnd h
    refine WC.front 1 ?_
    refine WC.front 1 ?_
    refine WC.drawn mo (nthL [[], [0], [0, 1], [0, 1, 2], [0, 1, 2, 3], [0, 1, 2, 3, 4], [0, 1, 2, 3, 4, 5], [0, 1, 2, 3, 4, 5, 6], [0, 1, 2, 3, 4, 5, 6, 7], [0, 1, 2, 3, 4, 5, 6, 7, 8], [0, 1, 2, 3, 4, 5, 6, 7, 8, 9], [0, 1, 2, 3, 4, 5, 6, 7, 8], [0, 1, 2, 3, 4, 5, 6, 7, 8, 11], [0, 1, 2, 3, 4, 5, 6, 7, 8, 11, 12], [0, 1, 2, 3, 4, 5, 6, 7, 8, 11, 12, 13], [0, 1, 2, 3, 4, 5, 6, 7, 8], [0, 1, 2, 3, 4, 5, 6, 7, 8], [0, 1, 2, 3, 4, 5, 6, 7, 8, 16], [0, 1, 2, 3, 4, 5, 6, 7, 8, 16, 17], [0, 1, 2, 3, 4, 5, 6, 7, 8, 16, 17, 18], [0, 1, 2, 3, 4, 5, 6, 7, 8, 11, 12, 13, 14, 15, 16, 17, 18, 19], [0, 1, 2, 3, 4, 5, 6, 7, 8, 11, 12, 13, 14, 15, 16, 17, 18, 19, 20], [0, 1, 2, 3, 4, 5, 6, 7, 8, 9, 10, 11, 12, 13, 14, 15, 16, 17, 18, 19, 20, 21], [0, 1, 2, 3, 4, 5, 6, 7, 8, 9, 10, 11, 12, 13, 14, 15, 16, 17, 18, 19, 20, 21, 22]]) (nthL [[], [0], [1], [2], [3], [4], [4, 5], [4, 6], [7], [8], [8, 9], [8], [8, 11], [8, 12], [8, 13], [8], [8], [8, 16], [8, 17], [8, 18], [8, 14, 15, 19], [8, 20], [8, 10, 21], [8, 22]]) (nthK [.val (.pointer (some ⟨g0, 0, none⟩)), .val (.pointer (some ⟨g0, 0, none⟩)), .val (.pointer (some ⟨g0, 2, none⟩)), .val (.bool s75.Bad), .val (.bool false), .val (.bool x140), .val (.bool (!x140)), .val (.bool (!x140)), .val (.bool false), .val (.slice a145 x139.length c146), .val (.string (strB x139)), .val (.pointer (some ⟨g0, 0, none⟩)), .val (.pointer (some ⟨g0, 0, none⟩)), .val (.pointer (some ⟨g0, 0, none⟩)), .val (.slice a148 s75.B.length c149), .val (.int .i64 p0.At), .val (.pointer (some ⟨g0, 0, none⟩)), .val (.pointer (some ⟨g0, 0, none⟩)), .val (.pointer (some ⟨g0, 1, none⟩)), .val (.int .i64 s75.At), .imm y155, .val (.string (strB y155)), .val (.bool (!(x139 == y155))), .val (.bool (!(x139 == y155)))]) [⟨none, none, [3, 14, 19], [], fun _ => bl g0 #[(.slice a148 s75.B.length c149), (.int .i64 s75.At), (.bool s75.Bad)] 78⟩, ⟨none, none, [10], [], fun _ => OV 5 (.slice a145 x139.length c146) x139⟩] (by kernel_rfl) (by kernel_rfl) (by kernel_rfl) (H := bl g13 #[(.int .i64 (x7.toNat : Int)), (.int .i64 x15), (.int .i64 x21), (.int .i64 x76), (.int .i64 x77), (.slice a79 x78.length c80), (.bool x82), (.int .i64 x83), (.int .i64 x84)] 41 :: bl g2 #[(.int .i64 0), (.int .i64 0), (.int .i64 0), (.int .i64 0), (.int .i64 0), (.slice none 0 0), (.bool false), (.int .i64 0), (.int .i64 0)] 41 :: G) rfl ⟨?_, ?_, ?_, ?_, ?_, ?_, ?_, ?_, ?_, ?_, ?_, ?_, ?_, ?_, ?_, ?_, ?_, ?_, ?_, ?_, ?_, ?_, ?_, ?_, trivial⟩ ?_
    · intro Q ρ I1 H hI1 hk hpost
      have hc := Mem.le.refl I1
      refine mv rfl rfl ?_
      refine WL.nil ?_
      exact hpost _ _ hc rfl _ (fun _ hd => by obtain rfl := Option.some.inj hd; exact ⟨rfl, trivial⟩)
    · intro Q ρ I1 H hI1 hk hpost
      obtain ⟨_, -⟩ := hk
      have hc := Mem.le.refl I1
      refine nc rfl rfl ?_
      refine WL.nil ?_
      exact hpost _ _ hc rfl _ (fun _ hd => by obtain rfl := Option.some.inj hd; exact ⟨rfl, trivial⟩)
    · intro Q ρ I1 H hI1 hk hpost
      obtain ⟨_, -⟩ := hk
      have hc := Mem.le.refl I1
      refine fa fl78_2 rfl rfl ?_
      refine WL.nil ?_
      exact hpost _ _ hc rfl _ (fun _ hd => by obtain rfl := Option.some.inj hd; exact ⟨rfl, trivial⟩)
    · intro Q ρ I1 H hI1 hk hpost
      obtain ⟨_, -⟩ := hk
      have hc := Mem.le.refl I1
      refine ld 0 na4 rfl rfl rfl rfl ?_
      refine WL.nil ?_
      exact hpost _ _ hc rfl _ (fun _ hd => by obtain rfl := Option.some.inj hd; exact ⟨rfl, trivial⟩)
    · intro Q ρ I1 H hI1 hk hpost
      obtain ⟨_, -⟩ := hk
      have hc := Mem.le.refl I1
      refine mv rfl rfl ?_
      refine WL.nil ?_
      exact hpost _ _ hc (bf1 k151) _ (fun _ hd => by obtain rfl := Option.some.inj hd; exact ⟨rfl, trivial⟩)
    · intro Q ρ I1 H hI1 hk hpost
      obtain ⟨_, -⟩ := hk
      have hc := Mem.le.refl I1
      refine WL.on rfl rfl ?_
      refine mv rfl rfl ?_
      refine WL.nil ?_
      exact hpost _ _ hc rfl _ (fun _ hd => by obtain rfl := Option.some.inj hd; exact ⟨rfl, trivial⟩)
    · intro Q ρ I1 H hI1 hk hpost
      obtain ⟨_, _, -⟩ := hk
      have hc := Mem.le.refl I1
      refine WL.on rfl rfl ?_
      refine nt rfl rfl ?_
      refine WL.nil ?_
      exact hpost _ _ hc rfl _ (fun _ hd => by obtain rfl := Option.some.inj hd; exact ⟨rfl, trivial⟩)
    · intro Q ρ I1 H hI1 hk hpost
      obtain ⟨_, _, -⟩ := hk
      have hc := Mem.le.refl I1
      refine pkF rfl rfl rfl ?_
      refine WL.nil ?_
      exact hpost _ _ hc rfl _ (fun _ hd => by obtain rfl := Option.some.inj hd; exact ⟨rfl, trivial⟩)
    · intro Q ρ I1 H hI1 hk hpost
      obtain ⟨_, -⟩ := hk
      have hc := Mem.le.refl I1
      refine mv rfl rfl ?_
      refine WL.nil ?_
      exact hpost _ _ hc (bt1n k154) _ (fun _ hd => by obtain rfl := Option.some.inj hd; exact ⟨rfl, trivial⟩)
    · intro Q ρ I1 H hI1 hk hpost
      obtain ⟨_, -⟩ := hk
      have hc := Mem.le.refl I1
      refine WL.on rfl rfl ?_
      refine mv rfl rfl ?_
      refine WL.nil ?_
      exact hpost _ _ hc rfl _ (fun _ hd => by obtain rfl := Option.some.inj hd; exact ⟨rfl, trivial⟩)
    · intro Q ρ I1 H hI1 hk hpost
      obtain ⟨_, _, -⟩ := hk
      have hc := Mem.le.refl I1
      refine WL.on rfl rfl ?_
      refine cvs Try.underlying22 Try.underlying5 Try.underlying9 rfl ((OV.rd 0 rfl)) rfl ?_
      refine WL.nil ?_
      exact hpost _ _ hc rfl _ (fun _ hd => by obtain rfl := Option.some.inj hd; exact ⟨rfl, trivial⟩)
    · intro Q ρ I1 H hI1 hk hpost
      obtain ⟨_, -⟩ := hk
      have hc := Mem.le.refl I1
      refine WL.on rfl rfl ?_
      refine mv rfl rfl ?_
      refine WL.nil ?_
      exact hpost _ _ hc rfl _ (fun _ hd => by obtain rfl := Option.some.inj hd; exact ⟨rfl, trivial⟩)
    · intro Q ρ I1 H hI1 hk hpost
      obtain ⟨_, _, -⟩ := hk
      have hc := Mem.le.refl I1
      refine WL.on rfl rfl ?_
      refine nc rfl rfl ?_
      refine WL.nil ?_
      exact hpost _ _ hc rfl _ (fun _ hd => by obtain rfl := Option.some.inj hd; exact ⟨rfl, trivial⟩)
    · intro Q ρ I1 H hI1 hk hpost
      obtain ⟨_, _, -⟩ := hk
      have hc := Mem.le.refl I1
      refine WL.on rfl rfl ?_
      refine fa fl78_0 rfl rfl ?_
      refine WL.nil ?_
      exact hpost _ _ hc rfl _ (fun _ hd => by obtain rfl := Option.some.inj hd; exact ⟨rfl, trivial⟩)
    · intro Q ρ I1 H hI1 hk hpost
      obtain ⟨_, _, -⟩ := hk
      have hc := Mem.le.refl I1
      refine WL.on rfl rfl ?_
      refine ld 0 na22 rfl rfl rfl rfl ?_
      refine WL.nil ?_
      exact hpost _ _ hc rfl _ (fun _ hd => by obtain rfl := Option.some.inj hd; exact ⟨rfl, trivial⟩)
    · intro Q ρ I1 H hI1 hk hpost
      obtain ⟨_, -⟩ := hk
      have hc := Mem.le.refl I1
      refine WL.on rfl rfl ?_
      refine mv rfl rfl ?_
      refine WL.nil ?_
      exact hpost _ _ hc rfl _ (fun _ hd => by obtain rfl := Option.some.inj hd; exact ⟨rfl, trivial⟩)
    · intro Q ρ I1 H hI1 hk hpost
      obtain ⟨_, -⟩ := hk
      have hc := Mem.le.refl I1
      refine WL.on rfl rfl ?_
      refine mv rfl rfl ?_
      refine WL.nil ?_
      exact hpost _ _ hc rfl _ (fun _ hd => by obtain rfl := Option.some.inj hd; exact ⟨rfl, trivial⟩)
    · intro Q ρ I1 H hI1 hk hpost
      obtain ⟨_, _, -⟩ := hk
      have hc := Mem.le.refl I1
      refine WL.on rfl rfl ?_
      refine nc rfl rfl ?_
      refine WL.nil ?_
      exact hpost _ _ hc rfl _ (fun _ hd => by obtain rfl := Option.some.inj hd; exact ⟨rfl, trivial⟩)
    · intro Q ρ I1 H hI1 hk hpost
      obtain ⟨_, _, -⟩ := hk
      have hc := Mem.le.refl I1
      refine WL.on rfl rfl ?_
      refine fa fl78_1 rfl rfl ?_
      refine WL.nil ?_
      exact hpost _ _ hc rfl _ (fun _ hd => by obtain rfl := Option.some.inj hd; exact ⟨rfl, trivial⟩)
    · intro Q ρ I1 H hI1 hk hpost
      obtain ⟨_, _, -⟩ := hk
      have hc := Mem.le.refl I1
      refine WL.on rfl rfl ?_
      refine ld 0 na3 rfl rfl rfl rfl ?_
      refine WL.nil ?_
      exact hpost _ _ hc rfl _ (fun _ hd => by obtain rfl := Option.some.inj hd; exact ⟨rfl, trivial⟩)
    · intro Q ρ I1 H hI1 hk hpost
      obtain ⟨_, _, _, _, -⟩ := hk
      replace h150 := h150.up hI1
      have hc := Mem.le.refl I1
      refine WL.on rfl rfl ?_
      refine cti (kl := .i64) (kh := .i64) et22 rfl h150 (.inr ⟨_, rfl, rfl, rfl⟩) (.inr ⟨_, rfl, rfl, rfl⟩) e156 rfl (fun a157 c158 h159 => ?_)
      refine WL.nil ?_
      exact hpost _ _ hc h159 _ (fun _ hd => by obtain rfl := Option.some.inj hd; exact ⟨rfl, trivial⟩)
    · intro Q ρ I1 H hI1 hk hpost
      obtain ⟨_, k20, -⟩ := hk
      have hc := Mem.le.refl I1
      refine WL.on rfl rfl ?_
      refine cvs Try.underlying22 Try.underlying5 Try.underlying9 rfl (k20.rd) rfl ?_
      refine WL.nil ?_
      exact hpost _ _ hc rfl _ (fun _ hd => by obtain rfl := Option.some.inj hd; exact ⟨rfl, trivial⟩)
    · intro Q ρ I1 H hI1 hk hpost
      obtain ⟨_, _, _, -⟩ := hk
      have hc := Mem.le.refl I1
      refine WL.on rfl rfl ?_
      refine sn rfl rfl rfl ?_
      refine WL.nil ?_
      exact hpost _ _ hc rfl _ (fun _ hd => by obtain rfl := Option.some.inj hd; exact ⟨rfl, trivial⟩)
    · intro Q ρ I1 H hI1 hk hpost
      obtain ⟨_, _, -⟩ := hk
      have hc := Mem.le.refl I1
      refine pkF rfl rfl rfl ?_
      refine WL.nil ?_
      exact hpost _ _ hc rfl _ (fun _ hd => by obtain rfl := Option.some.inj hd; exact ⟨rfl, trivial⟩)
    rintro ρ J160 hJ161 -
    refine WX.sub (r := [(2, (.pointer (some ⟨g2, 0, none⟩))), (5, (.pointer (some ⟨g13, 0, none⟩))), (80, (.bool (!(x139 == y155))))]) ?_ ⟨rfl, rfl, rfl, trivial⟩
    refine WX.is (H := bl g0 #[(.slice a148 s75.B.length c149), (.int .i64 s75.At), (.bool s75.Bad)] 78 :: OV 5 (.slice a145 x139.length c146) x139 :: bl g13 #[(.int .i64 (x7.toNat : Int)), (.int .i64 x15), (.int .i64 x21), (.int .i64 x76), (.int .i64 x77), (.slice a79 x78.length c80), (.bool x82), (.int .i64 x83), (.int .i64 x84)] 41 :: bl g2 #[(.int .i64 0), (.int .i64 0), (.int .i64 0), (.int .i64 0), (.int .i64 0), (.slice none 0 0), (.bool false), (.int .i64 0), (.int .i64 0)] 41 :: G) rfl ?_
    have hI := hI.trans hJ161
    replace h150 := h150.up hJ161; replace h81 := h81.up hJ161
    refine WX.then_ ?_
    refine WC.itebn rfl h (fun k162 h => ?_) (fun k162 h => ?_)
    · skip
      refine WC.skip ?_
      refine WX.then_ ?_
      refine WC.seq ?_
      refine WC.region ?_
      refine lda 2 ya41 rfl rfl rfl rfl rfl ?_
      refine WL.front 3 ?_
      refine sta (C' := #[(.int .i64 (x7.toNat : Int)), (.int .i64 x15), (.int .i64 x21), (.int .i64 x76), (.int .i64 x77), (.slice a79 x78.length c80), (.bool x82), (.int .i64 x83), (.int .i64 x84)]) sz41 rfl rfl rfl rfl rfl rfl ?_
      refine asg rfl rfl ?_
      refine WL.del 2 ?_
      refine WL.del 2 ?_
      refine WL.next ?_
      refine WC.ret ?_
      refine WX.front 1 ?_
      refine WX.shut_haulierref01_Reader (⟨s75.B, s75.At, s75.Bad⟩ : haulierref01_Reader) h150 ?_
      cases h
      exact retC2x Try.results51 (fun a w ha hw => ⟨RC.cellA ha hw 1 rfl ya41 rfl rfl, RC.tmp ha rfl⟩) (fun w hw => hw |>.del 1) hI ⟨_, _, rfl, h81, rfl⟩
    refine WC.seq ?_
    refine WC.region ?_
    refine bu bt41 rfl rfl rfl ?_
    refine WL.front 3 ?_
    refine sta (C' := #[(.int .i64 0), (.int .i64 0), (.int .i64 0), (.int .i64 0), (.int .i64 0), (.slice none 0 0), (.bool false), (.int .i64 0), (.int .i64 0)]) sz41 rfl rfl rfl rfl rfl rfl ?_
    refine asg rfl rfl ?_
    refine WL.del 2 ?_
    refine WL.del 2 ?_
    refine WL.next ?_
    refine WC.ret ?_
    refine WX.then_ret ?_
    refine WX.front 1 ?_
    refine WX.shut_haulierref01_Reader (⟨s75.B, s75.At, s75.Bad⟩ : haulierref01_Reader) h150 ?_
    cases h
    exact retC2x Try.results51 (fun a w ha hw => ⟨RC.cellA ha hw 1 rfl ya41 rfl rfl, RC.tmp ha rfl⟩) (fun w hw => hw |>.del 1) hI ⟨_, _, rfl, (IV.nil _ : IV _ _ ([] : List UInt8)), rfl⟩
  refine WC.drawn mo (nthL [[], [0], [0, 1], [0, 1, 2], [0, 1, 2, 3], [0, 1, 2, 3, 4], [0, 1, 2, 3, 4, 5], [0, 1, 2, 3, 4, 5, 6], [0, 1, 2, 3, 4, 5, 6, 7], [0, 1, 2, 3, 4, 5, 6, 7, 8], [0, 1, 2, 3, 4, 5, 6, 7, 8, 9], [0, 1, 2, 3, 4, 5, 6, 7, 8], [0, 1, 2, 3, 4, 5, 6, 7, 8, 11], [0, 1, 2, 3, 4, 5, 6, 7, 8, 11, 12], [0, 1, 2, 3, 4, 5, 6, 7, 8, 11, 12, 13], [0, 1, 2, 3, 4, 5, 6, 7, 8], [0, 1, 2, 3, 4, 5, 6, 7, 8], [0, 1, 2, 3, 4, 5, 6, 7, 8, 16], [0, 1, 2, 3, 4, 5, 6, 7, 8, 16, 17], [0, 1, 2, 3, 4, 5, 6, 7, 8, 16, 17, 18], [0, 1, 2, 3, 4, 5, 6, 7, 8, 11, 12, 13, 14, 15, 16, 17, 18, 19], [0, 1, 2, 3, 4, 5, 6, 7, 8, 11, 12, 13, 14, 15, 16, 17, 18, 19, 20], [0, 1, 2, 3, 4, 5, 6, 7, 8, 9, 10, 11, 12, 13, 14, 15, 16, 17, 18, 19, 20, 21], [0, 1, 2, 3, 4, 5, 6, 7, 8, 9, 10, 11, 12, 13, 14, 15, 16, 17, 18, 19, 20, 21, 22]]) (nthL [[], [0], [1], [2], [3], [4], [4, 5], [4, 6], [7], [8], [8], [8], [8], [8], [8], [8], [8], [8], [8], [8], [8], [8], [8], [8, 22]]) (nthK [.val (.pointer (some ⟨g0, 0, none⟩)), .val (.pointer (some ⟨g0, 0, none⟩)), .val (.pointer (some ⟨g0, 2, none⟩)), .val (.bool s75.Bad), .val (.bool false), .val (.bool x140), .val (.bool (!x140)), .val (.bool (!x140)), .val (.bool true), .val undef, .val undef, .val undef, .val undef, .val undef, .val undef, .val undef, .val undef, .val undef, .val undef, .val undef, .val undef, .val undef, .val undef, .val (.bool true)]) [⟨none, none, [3], [], fun _ => bl g0 #[(.slice a148 s75.B.length c149), (.int .i64 s75.At), (.bool s75.Bad)] 78⟩] (by kernel_rfl) (by kernel_rfl) (by kernel_rfl) (H := OV 5 (.slice a145 x139.length c146) x139 :: bl g13 #[(.int .i64 (x7.toNat : Int)), (.int .i64 x15), (.int .i64 x21), (.int .i64 x76), (.int .i64 x77), (.slice a79 x78.length c80), (.bool x82), (.int .i64 x83), (.int .i64 x84)] 41 :: bl g2 #[(.int .i64 0), (.int .i64 0), (.int .i64 0), (.int .i64 0), (.int .i64 0), (.slice none 0 0), (.bool false), (.int .i64 0), (.int .i64 0)] 41 :: G) rfl ⟨?_, ?_, ?_, ?_, ?_, ?_, ?_, ?_, ?_, ?_, ?_, ?_, ?_, ?_, ?_, ?_, ?_, ?_, ?_, ?_, ?_, ?_, ?_, ?_, trivial⟩ ?_
  · intro Q ρ I1 H hI1 hk hpost
    have hc := Mem.le.refl I1
    refine mv rfl rfl ?_
    refine WL.nil ?_
    exact hpost _ _ hc rfl _ (fun _ hd => by obtain rfl := Option.some.inj hd; exact ⟨rfl, trivial⟩)
  · intro Q ρ I1 H hI1 hk hpost
    obtain ⟨_, -⟩ := hk
    have hc := Mem.le.refl I1
    refine nc rfl rfl ?_
    refine WL.nil ?_
    exact hpost _ _ hc rfl _ (fun _ hd => by obtain rfl := Option.some.inj hd; exact ⟨rfl, trivial⟩)
  · intro Q ρ I1 H hI1 hk hpost
    obtain ⟨_, -⟩ := hk
    have hc := Mem.le.refl I1
    refine fa fl78_2 rfl rfl ?_
    refine WL.nil ?_
    exact hpost _ _ hc rfl _ (fun _ hd => by obtain rfl := Option.some.inj hd; exact ⟨rfl, trivial⟩)
  · intro Q ρ I1 H hI1 hk hpost
    obtain ⟨_, -⟩ := hk
    have hc := Mem.le.refl I1
    refine ld 0 na4 rfl rfl rfl rfl ?_
    refine WL.nil ?_
    exact hpost _ _ hc rfl _ (fun _ hd => by obtain rfl := Option.some.inj hd; exact ⟨rfl, trivial⟩)
  · intro Q ρ I1 H hI1 hk hpost
    obtain ⟨_, -⟩ := hk
    have hc := Mem.le.refl I1
    refine mv rfl rfl ?_
    refine WL.nil ?_
    exact hpost _ _ hc (bf1 k151) _ (fun _ hd => by obtain rfl := Option.some.inj hd; exact ⟨rfl, trivial⟩)
  · intro Q ρ I1 H hI1 hk hpost
    obtain ⟨_, -⟩ := hk
    have hc := Mem.le.refl I1
    refine WL.on rfl rfl ?_
    refine mv rfl rfl ?_
    refine WL.nil ?_
    exact hpost _ _ hc rfl _ (fun _ hd => by obtain rfl := Option.some.inj hd; exact ⟨rfl, trivial⟩)
  · intro Q ρ I1 H hI1 hk hpost
    obtain ⟨_, _, -⟩ := hk
    have hc := Mem.le.refl I1
    refine WL.on rfl rfl ?_
    refine nt rfl rfl ?_
    refine WL.nil ?_
    exact hpost _ _ hc rfl _ (fun _ hd => by obtain rfl := Option.some.inj hd; exact ⟨rfl, trivial⟩)
  · intro Q ρ I1 H hI1 hk hpost
    obtain ⟨_, _, -⟩ := hk
    have hc := Mem.le.refl I1
    refine pkF rfl rfl rfl ?_
    refine WL.nil ?_
    exact hpost _ _ hc rfl _ (fun _ hd => by obtain rfl := Option.some.inj hd; exact ⟨rfl, trivial⟩)
  · intro Q ρ I1 H hI1 hk hpost
    obtain ⟨_, -⟩ := hk
    have hc := Mem.le.refl I1
    refine mv rfl rfl ?_
    refine WL.nil ?_
    exact hpost _ _ hc (bf1n k154) _ (fun _ hd => by obtain rfl := Option.some.inj hd; exact ⟨rfl, trivial⟩)
  · intro Q ρ I1 H hI1 hk hpost
    obtain ⟨_, -⟩ := hk
    have hc := Mem.le.refl I1
    refine WL.no rfl rfl rfl rfl ?_
    refine WL.nil ?_
    exact hpost _ _ hc rfl _ (fun _ hd => by obtain rfl := Option.some.inj hd; exact ⟨rfl, trivial⟩)
  · intro Q ρ I1 H hI1 hk hpost
    obtain ⟨_, -⟩ := hk
    have hc := Mem.le.refl I1
    refine WL.no rfl rfl rfl rfl ?_
    refine WL.nil ?_
    exact hpost _ _ hc rfl _ (fun _ hd => by obtain rfl := Option.some.inj hd; exact ⟨rfl, trivial⟩)
  · intro Q ρ I1 H hI1 hk hpost
    obtain ⟨_, -⟩ := hk
    have hc := Mem.le.refl I1
    refine WL.no rfl rfl rfl rfl ?_
    refine WL.nil ?_
    exact hpost _ _ hc rfl _ (fun _ hd => by obtain rfl := Option.some.inj hd; exact ⟨rfl, trivial⟩)
  · intro Q ρ I1 H hI1 hk hpost
    obtain ⟨_, -⟩ := hk
    have hc := Mem.le.refl I1
    refine WL.no rfl rfl rfl rfl ?_
    refine WL.nil ?_
    exact hpost _ _ hc rfl _ (fun _ hd => by obtain rfl := Option.some.inj hd; exact ⟨rfl, trivial⟩)
  · intro Q ρ I1 H hI1 hk hpost
    obtain ⟨_, -⟩ := hk
    have hc := Mem.le.refl I1
    refine WL.no rfl rfl rfl rfl ?_
    refine WL.nil ?_
    exact hpost _ _ hc rfl _ (fun _ hd => by obtain rfl := Option.some.inj hd; exact ⟨rfl, trivial⟩)
  · intro Q ρ I1 H hI1 hk hpost
    obtain ⟨_, -⟩ := hk
    have hc := Mem.le.refl I1
    refine WL.no rfl rfl rfl rfl ?_
    refine WL.nil ?_
    exact hpost _ _ hc rfl _ (fun _ hd => by obtain rfl := Option.some.inj hd; exact ⟨rfl, trivial⟩)
  · intro Q ρ I1 H hI1 hk hpost
    obtain ⟨_, -⟩ := hk
    have hc := Mem.le.refl I1
    refine WL.no rfl rfl rfl rfl ?_
    refine WL.nil ?_
    exact hpost _ _ hc rfl _ (fun _ hd => by obtain rfl := Option.some.inj hd; exact ⟨rfl, trivial⟩)
  · intro Q ρ I1 H hI1 hk hpost
    obtain ⟨_, -⟩ := hk
    have hc := Mem.le.refl I1
    refine WL.no rfl rfl rfl rfl ?_
    refine WL.nil ?_
    exact hpost _ _ hc rfl _ (fun _ hd => by obtain rfl := Option.some.inj hd; exact ⟨rfl, trivial⟩)
  · intro Q ρ I1 H hI1 hk hpost
    obtain ⟨_, -⟩ := hk
    have hc := Mem.le.refl I1
    refine WL.no rfl rfl rfl rfl ?_
    refine WL.nil ?_
    exact hpost _ _ hc rfl _ (fun _ hd => by obtain rfl := Option.some.inj hd; exact ⟨rfl, trivial⟩)
  · intro Q ρ I1 H hI1 hk hpost
    obtain ⟨_, -⟩ := hk
    have hc := Mem.le.refl I1
    refine WL.no rfl rfl rfl rfl ?_
    refine WL.nil ?_
    exact hpost _ _ hc rfl _ (fun _ hd => by obtain rfl := Option.some.inj hd; exact ⟨rfl, trivial⟩)
  · intro Q ρ I1 H hI1 hk hpost
    obtain ⟨_, -⟩ := hk
    have hc := Mem.le.refl I1
    refine WL.no rfl rfl rfl rfl ?_
    refine WL.nil ?_
    exact hpost _ _ hc rfl _ (fun _ hd => by obtain rfl := Option.some.inj hd; exact ⟨rfl, trivial⟩)
  · intro Q ρ I1 H hI1 hk hpost
    obtain ⟨_, -⟩ := hk
    have hc := Mem.le.refl I1
    refine WL.no rfl rfl rfl rfl ?_
    refine WL.nil ?_
    exact hpost _ _ hc rfl _ (fun _ hd => by obtain rfl := Option.some.inj hd; exact ⟨rfl, trivial⟩)
  · intro Q ρ I1 H hI1 hk hpost
    obtain ⟨_, -⟩ := hk
    have hc := Mem.le.refl I1
    refine WL.no rfl rfl rfl rfl ?_
    refine WL.nil ?_
    exact hpost _ _ hc rfl _ (fun _ hd => by obtain rfl := Option.some.inj hd; exact ⟨rfl, trivial⟩)
  · intro Q ρ I1 H hI1 hk hpost
    obtain ⟨_, -⟩ := hk
    have hc := Mem.le.refl I1
    refine WL.no rfl rfl rfl rfl ?_
    refine WL.nil ?_
    exact hpost _ _ hc rfl _ (fun _ hd => by obtain rfl := Option.some.inj hd; exact ⟨rfl, trivial⟩)
  · intro Q ρ I1 H hI1 hk hpost
    obtain ⟨_, _, -⟩ := hk
    have hc := Mem.le.refl I1
    refine pkT rfl rfl rfl ?_
    refine WL.nil ?_
    exact hpost _ _ hc rfl _ (fun _ hd => by obtain rfl := Option.some.inj hd; exact ⟨rfl, trivial⟩)
  rintro ρ J163 hJ164 -
  refine WX.sub (r := [(2, (.pointer (some ⟨g2, 0, none⟩))), (5, (.pointer (some ⟨g13, 0, none⟩))), (80, (.bool true))]) ?_ ⟨rfl, rfl, rfl, trivial⟩
  refine WX.is (H := bl g0 #[(.slice a148 s75.B.length c149), (.int .i64 s75.At), (.bool s75.Bad)] 78 :: OV 5 (.slice a145 x139.length c146) x139 :: bl g13 #[(.int .i64 (x7.toNat : Int)), (.int .i64 x15), (.int .i64 x21), (.int .i64 x76), (.int .i64 x77), (.slice a79 x78.length c80), (.bool x82), (.int .i64 x83), (.int .i64 x84)] 41 :: bl g2 #[(.int .i64 0), (.int .i64 0), (.int .i64 0), (.int .i64 0), (.int .i64 0), (.slice none 0 0), (.bool false), (.int .i64 0), (.int .i64 0)] 41 :: G) rfl ?_
  have hI := hI.trans hJ164
  replace h150 := h150.up hJ164; replace h81 := h81.up hJ164
  refine WX.then_ ?_
  refine WC.cond rfl (fun _ => ?_) (fun k => by cases k)
  refine WC.seq ?_
  refine WC.region ?_
  refine bu bt41 rfl rfl rfl ?_
  refine WL.front 3 ?_
  refine sta (C' := #[(.int .i64 0), (.int .i64 0), (.int .i64 0), (.int .i64 0), (.int .i64 0), (.slice none 0 0), (.bool false), (.int .i64 0), (.int .i64 0)]) sz41 rfl rfl rfl rfl rfl rfl ?_
  refine asg rfl rfl ?_
  refine WL.del 2 ?_
  refine WL.del 2 ?_
  refine WL.next ?_
  refine WC.ret ?_
  refine WX.then_ret ?_
  refine WX.front 1 ?_
  refine WX.shut_haulierref01_Reader (⟨s75.B, s75.At, s75.Bad⟩ : haulierref01_Reader) h150 ?_
  cases h
  exact retC2x Try.results51 (fun a w ha hw => ⟨RC.cellA ha hw 1 rfl ya41 rfl rfl, RC.tmp ha rfl⟩) (fun w hw => hw |>.del 1) hI ⟨_, _, rfl, (IV.nil _ : IV _ _ ([] : List UInt8)), rfl⟩
theorem W53 {I : Mem} {G : List Asn} {p0 : List UInt8} {r : api_Packet × Bool} (h : haulierref01_Unpack p0 = some r) {u0 : Value} (hp0 : IV I u0 p0) :
    CallsS Try.prog 53 #[u0] I (G) (fun v J G' => ∃ ra0_5 rc0_5, v = .tuple #[.agg #[.int .i64 r.1.Kind, .int .i64 r.1.Path, .int .i64 r.1.Number, .int .i64 r.1.Of, .int .i64 r.1.From, .slice ra0_5 r.1.Data.length rc0_5, .bool r.1.Fin, .int .i64 r.1.Seen, .int .i64 r.1.Limit], .bool r.2] ∧ IV J (.slice ra0_5 r.1.Data.length rc0_5) r.1.Data ∧ G = G') := by
  refine CallsS.enter Try.func53 rfl Try.ntmps53 rfl (fun w0 => ?_)
  have hI := Mem.le.refl I
  obtain ⟨a0, c0, rfl⟩ := hp0.hd
  unfold haulierref01_Unpack at h
  refine WC.seq ?_
  refine WC.region ?_
  refine al Try.zeroValue41 rfl (fun g1 => ?_)
  refine asg rfl rfl ?_
  refine WL.next ?_
  refine WC.seq ?_
  refine WC.region ?_
  refine mv rfl rfl ?_
  obtain ⟨⟨x3, x4⟩, e5, h⟩ := bnd h
  refine call cl29 rfl rfl (W29 e5 hp0) (fun _ J6 _ hJ7 q8 => ?_)
  have hI := hI.trans hJ7
  replace hp0 := hp0.up hJ7
  obtain ⟨a9, c10, rfl, rfl⟩ := q8
  refine mv rfl rfl ?_
  refine ex rfl rfl rfl ?_
  refine ex rfl rfl rfl ?_
  refine asg rfl rfl ?_
  refine asg rfl rfl ?_
  refine WL.next ?_
  refine WC.seq ?_
  refine WC.seq ?_
  refine WC.region ?_
  refine mv rfl rfl ?_
  refine nt rfl rfl ?_
  refine WL.next ?_
  refine WC.itebn rfl h (fun k12 h => ?_) (fun k12 h => ?_)
  · skip
    refine WC.skip ?_
    refine WX.then_ ?_
    refine WC.seq ?_
    refine WC.region ?_
    refine mv rfl rfl ?_
    refine bu bt78 rfl rfl rfl ?_
    refine bx rfl rfl rfl (fun g13 => ?_)
    refine asg rfl rfl ?_
    refine WL.next ?_
    refine WC.seq ?_
    refine WC.region ?_
    refine mv rfl rfl ?_
    refine WL.front 1 ?_
    refine WL.freeze (fun J15 hJ16 h17 => ?_)
    have hI := hI.trans hJ16
    refine WL.shut_haulierref01_Reader (⟨x3, 0, false⟩ : haulierref01_Reader) h17 ?_
    obtain ⟨⟨x18, x19, s20⟩, e21, h⟩ := bnd h
    refine call cl51 rfl rfl (W51 e21) (fun _ J22 _ hJ23 q24 => ?_)
    have hI := hI.trans hJ23
    replace h17 := h17.up hJ23
    obtain ⟨a25, c26, rfl, h27, rfl⟩ := q24
    refine mv rfl rfl ?_
    refine ex rfl rfl rfl ?_
    refine ex rfl rfl rfl ?_
    refine al Try.zeroValue41 rfl (fun g28 => ?_)
    refine sta (C' := #[(.int .i64 x18.Kind), (.int .i64 x18.Path), (.int .i64 x18.Number), (.int .i64 x18.Of), (.int .i64 x18.From), (.slice a25 x18.Data.length c26), (.bool x18.Fin), (.int .i64 x18.Seen), (.int .i64 x18.Limit)]) sz41 rfl rfl rfl rfl rfl rfl ?_
    refine asg rfl rfl ?_
    refine WL.next ?_
    refine WC.seq ?_
    refine WC.seq ?_
    refine WC.region ?_
    refine mv rfl rfl ?_
    refine nt rfl rfl ?_
    refine mv rfl rfl ?_
    rcases spl h with ⟨k30, h⟩ | ⟨k30, h⟩
    · skip
      refine WL.rb 26 rfl (bt1n k30) ?_
      refine WL.on rfl rfl ?_
      refine mv rfl rfl ?_
      refine WL.on rfl rfl ?_
      refine nc rfl rfl ?_
      refine WL.on rfl rfl ?_
      refine fa fl78_1 rfl rfl ?_
      refine WL.on rfl rfl ?_
      refine WL.front 1 ?_
      refine WL.open_haulierref01_Reader (fun a31 c32 h33 => ?_)
      refine ld 0 na3 rfl rfl rfl rfl ?_
      refine WL.on rfl rfl ?_
      refine mv rfl rfl ?_
      refine WL.on rfl rfl ?_
      refine ln et22 rfl (h17.rd) rfl ?_
      refine WL.on rfl rfl ?_
      refine ne rfl rfl rfl ?_
      refine pkF rfl rfl rfl ?_
      refine WL.del 0 ?_
      refine WL.next ?_
      refine WC.ite rfl h (fun k34 h => ?_) (fun k34 h => ?_)
      · skip
        refine WC.seq ?_
        refine WC.region ?_
        refine bu bt41 rfl rfl rfl ?_
        refine WL.front 1 ?_
        refine sta (C' := #[(.int .i64 0), (.int .i64 0), (.int .i64 0), (.int .i64 0), (.int .i64 0), (.slice none 0 0), (.bool false), (.int .i64 0), (.int .i64 0)]) sz41 rfl rfl rfl rfl rfl rfl ?_
        refine asg rfl rfl ?_
        refine WL.del 1 ?_
        refine WL.next ?_
        refine WC.ret ?_
        refine WX.then_ret ?_
        cases h
        exact retC2x Try.results53 (fun a w ha hw => ⟨RC.cellA ha hw 0 rfl ya41 rfl rfl, RC.tmp ha rfl⟩) (fun w hw => hw |>.del 0) hI ⟨_, _, rfl, (IV.nil _ : IV _ _ ([] : List UInt8)), rfl⟩
      refine WC.skip ?_
      refine WX.then_ ?_
      refine WC.seq ?_
      refine WC.region ?_
      refine lda 0 ya41 rfl rfl rfl rfl rfl ?_
      refine WL.front 1 ?_
      refine sta (C' := #[(.int .i64 x18.Kind), (.int .i64 x18.Path), (.int .i64 x18.Number), (.int .i64 x18.Of), (.int .i64 x18.From), (.slice a25 x18.Data.length c26), (.bool x18.Fin), (.int .i64 x18.Seen), (.int .i64 x18.Limit)]) sz41 rfl rfl rfl rfl rfl rfl ?_
      refine asg rfl rfl ?_
      refine WL.del 1 ?_
      refine WL.next ?_
      refine WC.ret ?_
      cases h
      exact retC2x Try.results53 (fun a w ha hw => ⟨RC.cellA ha hw 0 rfl ya41 rfl rfl, RC.tmp ha rfl⟩) (fun w hw => hw |>.del 0) hI ⟨_, _, rfl, h27, rfl⟩
    refine WL.rb 26 rfl (bf1n k30) ?_
    refine WL.no rfl rfl rfl rfl ?_
    refine WL.no rfl rfl rfl rfl ?_
    refine WL.no rfl rfl rfl rfl ?_
    refine WL.no rfl rfl rfl rfl ?_
    refine WL.no rfl rfl rfl rfl ?_
    refine WL.no rfl rfl rfl rfl ?_
    refine WL.no rfl rfl rfl rfl ?_
    refine pkT rfl rfl rfl ?_
    refine WL.del 1 ?_
    refine WL.next ?_
    refine WC.cond rfl (fun _ => ?_) (fun k => by cases k)
    refine WC.seq ?_
    refine WC.region ?_
    refine bu bt41 rfl rfl rfl ?_
    refine WL.front 1 ?_
    refine sta (C' := #[(.int .i64 0), (.int .i64 0), (.int .i64 0), (.int .i64 0), (.int .i64 0), (.slice none 0 0), (.bool false), (.int .i64 0), (.int .i64 0)]) sz41 rfl rfl rfl rfl rfl rfl ?_
    refine asg rfl rfl ?_
    refine WL.del 1 ?_
    refine WL.next ?_
    refine WC.ret ?_
    refine WX.then_ret ?_
    cases h
    exact retC2x Try.results53 (fun a w ha hw => ⟨RC.cellA ha hw 0 rfl ya41 rfl rfl, RC.tmp ha rfl⟩) (fun w hw => hw |>.del 0) hI ⟨_, _, rfl, (IV.nil _ : IV _ _ ([] : List UInt8)), rfl⟩
  refine WC.seq ?_
  refine WC.region ?_
  refine bu bt41 rfl rfl rfl ?_
  refine WL.front 1 ?_
  refine sta (C' := #[(.int .i64 0), (.int .i64 0), (.int .i64 0), (.int .i64 0), (.int .i64 0), (.slice none 0 0), (.bool false), (.int .i64 0), (.int .i64 0)]) sz41 rfl rfl rfl rfl rfl rfl ?_
  refine asg rfl rfl ?_
  refine WL.del 1 ?_
  refine WL.next ?_
  refine WC.ret ?_
  refine WX.then_ret ?_
  cases h
  exact retC2x Try.results53 (fun a w ha hw => ⟨RC.cellA ha hw 0 rfl ya41 rfl rfl, RC.tmp ha rfl⟩) (fun w hw => hw |>.del 0) hI ⟨_, _, rfl, (IV.nil _ : IV _ _ ([] : List UInt8)), rfl⟩
end Go.Proofs.Ytgobccnphhljcaa
