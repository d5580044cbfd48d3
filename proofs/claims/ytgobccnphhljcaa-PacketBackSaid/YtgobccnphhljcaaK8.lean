/- Printed by a program of this session: walks of Go functions. -/
import Derived.Test.YtgobccnphhljcaaKf
import Derived.Test.YtgobccnphhljcaaDf
import Derived.Test.YtgobccnphhljcaaK0
import Derived.Test.YtgobccnphhljcaaK1
import Derived.Test.YtgobccnphhljcaaK2
import Derived.Test.YtgobccnphhljcaaK5
import Derived.Test.YtgobccnphhljcaaK7
namespace Go.Proofs.Ytgobccnphhljcaa
set_option linter.unusedVariables false
set_option maxRecDepth 10000
set_option maxHeartbeats 2000000
theorem W74 {I : Mem} {G : List Asn} {p0 : span_Reader} {r : Int × span_Reader} (h : span_Reader_Number p0 = some r) {g0 : Nat} :
    CallsS Try.prog 74 #[.pointer (some ⟨g0, 0, none⟩)] I (Ob_span_Reader g0 p0 :: G) (fun v J G' => v = .int .i64 r.1 ∧ Ob_span_Reader g0 (r.2) :: G = G') := by
  refine CallsS.enter Try.func74 rfl Try.ntmps74 rfl (fun w0 => ?_)
  have hI := Mem.le.refl I
  unfold span_Reader_Number at h
  refine WC.seq ?_
  refine WC.region ?_
  refine asg rfl rfl ?_
  refine WL.next ?_
  refine WC.seq ?_
  refine WC.open_span_Reader (fun a2 c3 h4 => ?_)
  refine WC.sub (r := [(0, (.pointer (some ⟨g0, 0, none⟩)))]) ?_ ⟨rfl, trivial⟩
  obtain ⟨y5, e6, h⟩ := bnd h
  obtain ⟨⟨x10, x11, x12⟩, e13, h⟩ := bnd h
  refine WC.drawn mo (nthL [[], [0], [0, 1], [0, 1, 2], [], [4], [4, 5], [4, 5, 6], [0, 1, 2, 3, 4, 5, 6, 7], [0, 1, 2, 3, 4, 5, 6, 7, 8], [0, 1, 2, 3, 4, 5, 6, 7, 8, 9], [0, 1, 2, 3, 4, 5, 6, 7, 8, 9, 10], [0, 1, 2, 3, 4, 5, 6, 7, 8, 9, 10], [0, 1, 2, 3, 4, 5, 6, 7, 8, 9, 10], [0, 1, 2, 3, 4, 5, 6, 7, 8, 9, 10, 11], [0, 1, 2, 3, 4, 5, 6, 7, 8, 9, 10, 11, 12, 14], [0, 1, 2, 3, 4, 5, 6, 7, 8, 9, 10, 11, 12, 13, 14, 15]]) (nthL [[], [0], [1], [2], [], [4], [5], [6], [3, 7], [8], [9], [10], [10], [10], [11], [12], [13]]) (nthK [.val (.pointer (some ⟨g0, 0, none⟩)), .val (.pointer (some ⟨g0, 0, none⟩)), .val (.pointer (some ⟨g0, 0, none⟩)), .val (.slice a2 p0.b_.length c3), .val (.pointer (some ⟨g0, 0, none⟩)), .val (.pointer (some ⟨g0, 0, none⟩)), .val (.pointer (some ⟨g0, 1, none⟩)), .val (.int .i64 p0.at_), .imm y5, .val (.tuple #[(.int .i64 x10), (.int .i64 x11), (.bool x12)]), .val (.tuple #[(.int .i64 x10), (.int .i64 x11), (.bool x12)]), .val (.int .i64 x10), .val (.int .i64 x11), .val (.bool x12), .val (.int .i64 x10), .val (.int .i64 x11), .val (.bool x12)]) [⟨none, none, [3, 7], [], fun _ => bl g0 #[(.slice a2 p0.b_.length c3), (.int .i64 p0.at_), (.bool p0.bad_)] 94⟩] (by kernel_rfl) (by kernel_rfl) (by kernel_rfl) (H := G) rfl ⟨?_, ?_, ?_, ?_, ?_, ?_, ?_, ?_, ?_, ?_, ?_, ?_, ?_, ?_, ?_, ?_, ?_, trivial⟩ ?_
  · intro Q ρ I1 H hI1 hk hpost
    have hc := Mem.le.refl I1
    refine mv rfl rfl ?_
    refine WL.nil ?_
    exact hpost _ _ hc rfl _ (fun _ hd => by obtain rfl := Option.some.inj hd; exact ⟨rfl, trivial⟩)
  · intro Q ρ I1 H hI1 hk hpost
    obtain ⟨_, -⟩ := hk
    have hc := Mem.le.refl I1
    refine nc rfl rfl ?_
    refine WL.nil ?_
    exact hpost _ _ hc rfl _ (fun _ hd => by obtain rfl := Option.some.inj hd; exact ⟨rfl, trivial⟩)
  · intro Q ρ I1 H hI1 hk hpost
    obtain ⟨_, -⟩ := hk
    have hc := Mem.le.refl I1
    refine fa fl94_0 rfl rfl ?_
    refine WL.nil ?_
    exact hpost _ _ hc rfl _ (fun _ hd => by obtain rfl := Option.some.inj hd; exact ⟨rfl, trivial⟩)
  · intro Q ρ I1 H hI1 hk hpost
    obtain ⟨_, -⟩ := hk
    have hc := Mem.le.refl I1
    refine ld 0 na22 rfl rfl rfl rfl ?_
    refine WL.nil ?_
    exact hpost _ _ hc rfl _ (fun _ hd => by obtain rfl := Option.some.inj hd; exact ⟨rfl, trivial⟩)
  · intro Q ρ I1 H hI1 hk hpost
    have hc := Mem.le.refl I1
    refine mv rfl rfl ?_
    refine WL.nil ?_
    exact hpost _ _ hc rfl _ (fun _ hd => by obtain rfl := Option.some.inj hd; exact ⟨rfl, trivial⟩)
  · intro Q ρ I1 H hI1 hk hpost
    obtain ⟨_, -⟩ := hk
    have hc := Mem.le.refl I1
    refine nc rfl rfl ?_
    refine WL.nil ?_
    exact hpost _ _ hc rfl _ (fun _ hd => by obtain rfl := Option.some.inj hd; exact ⟨rfl, trivial⟩)
  · intro Q ρ I1 H hI1 hk hpost
    obtain ⟨_, -⟩ := hk
    have hc := Mem.le.refl I1
    refine fa fl94_1 rfl rfl ?_
    refine WL.nil ?_
    exact hpost _ _ hc rfl _ (fun _ hd => by obtain rfl := Option.some.inj hd; exact ⟨rfl, trivial⟩)
  · intro Q ρ I1 H hI1 hk hpost
    obtain ⟨_, -⟩ := hk
    have hc := Mem.le.refl I1
    refine ld 0 na3 rfl rfl rfl rfl ?_
    refine WL.nil ?_
    exact hpost _ _ hc rfl _ (fun _ hd => by obtain rfl := Option.some.inj hd; exact ⟨rfl, trivial⟩)
  · intro Q ρ I1 H hI1 hk hpost
    obtain ⟨_, _, -⟩ := hk
    replace h4 := h4.up hI1
    have hc := Mem.le.refl I1
    refine cti (kl := .i64) (kh := .i64) et22 rfl h4 (.inr ⟨_, rfl, rfl, rfl⟩) (.inl ⟨rfl, rfl, rfl⟩) e6 rfl (fun a7 c8 h9 => ?_)
    refine WL.nil ?_
    exact hpost _ _ hc h9 _ (fun _ hd => by obtain rfl := Option.some.inj hd; exact ⟨rfl, trivial⟩)
  · intro Q ρ I1 H hI1 hk hpost
    obtain ⟨k8, -⟩ := hk
    have hc := Mem.le.refl I1
    refine call cl83 rfl rfl (W83 e13 k8) (fun _ J14 _ hJ15 q16 => ?_)
    have hc := hc.trans hJ15
    replace k8 := k8.up hJ15
    obtain ⟨rfl, rfl⟩ := q16
    refine WL.nil ?_
    exact hpost _ _ hc rfl _ (fun _ hd => by obtain rfl := Option.some.inj hd; exact ⟨rfl, trivial⟩)
  · intro Q ρ I1 H hI1 hk hpost
    obtain ⟨_, -⟩ := hk
    have hc := Mem.le.refl I1
    refine mv rfl rfl ?_
    refine WL.nil ?_
    exact hpost _ _ hc rfl _ (fun _ hd => by obtain rfl := Option.some.inj hd; exact ⟨rfl, trivial⟩)
  · intro Q ρ I1 H hI1 hk hpost
    obtain ⟨_, -⟩ := hk
    have hc := Mem.le.refl I1
    refine ex rfl rfl rfl ?_
    refine WL.nil ?_
    exact hpost _ _ hc rfl _ (fun _ hd => by obtain rfl := Option.some.inj hd; exact ⟨rfl, trivial⟩)
  · intro Q ρ I1 H hI1 hk hpost
    obtain ⟨_, -⟩ := hk
    have hc := Mem.le.refl I1
    refine ex rfl rfl rfl ?_
    refine WL.nil ?_
    exact hpost _ _ hc rfl _ (fun _ hd => by obtain rfl := Option.some.inj hd; exact ⟨rfl, trivial⟩)
  · intro Q ρ I1 H hI1 hk hpost
    obtain ⟨_, -⟩ := hk
    have hc := Mem.le.refl I1
    refine ex rfl rfl rfl ?_
    refine WL.nil ?_
    exact hpost _ _ hc rfl _ (fun _ hd => by obtain rfl := Option.some.inj hd; exact ⟨rfl, trivial⟩)
  · intro Q ρ I1 H hI1 hk hpost
    obtain ⟨_, -⟩ := hk
    have hc := Mem.le.refl I1
    refine asg rfl rfl ?_
    refine WL.nil ?_
    exact hpost _ _ hc rfl _ (fun _ hd => by obtain rfl := Option.some.inj hd; exact ⟨rfl, trivial⟩)
  · intro Q ρ I1 H hI1 hk hpost
    obtain ⟨_, -⟩ := hk
    have hc := Mem.le.refl I1
    refine asg rfl rfl ?_
    refine WL.nil ?_
    exact hpost _ _ hc rfl _ (fun _ hd => by obtain rfl := Option.some.inj hd; exact ⟨rfl, trivial⟩)
  · intro Q ρ I1 H hI1 hk hpost
    obtain ⟨_, -⟩ := hk
    have hc := Mem.le.refl I1
    refine asg rfl rfl ?_
    refine WL.nil ?_
    exact hpost _ _ hc rfl _ (fun _ hd => by obtain rfl := Option.some.inj hd; exact ⟨rfl, trivial⟩)
  rintro ρ J17 hJ18 -
  refine WX.sub (r := [(0, (.pointer (some ⟨g0, 0, none⟩))), (3, (.int .i64 x10)), (4, (.int .i64 x11)), (5, (.bool x12))]) ?_ ⟨rfl, rfl, rfl, rfl, trivial⟩
  refine WX.is (H := bl g0 #[(.slice a2 p0.b_.length c3), (.int .i64 p0.at_), (.bool p0.bad_)] 94 :: G) rfl ?_
  have hI := hI.trans hJ18
  replace h4 := h4.up hJ18
  refine WX.then_ ?_
  refine WC.seq ?_
  refine WC.seq ?_
  obtain ⟨j23, hj23, h⟩ := bnd h
  refine WC.joinQ (σ := span_Reader × Bool) (fun (s21, x22) => [(0, (.pointer (some ⟨g0, 0, none⟩))), (3, (.int .i64 x10)), (4, (.int .i64 x11)), (27, (.bool x22))]) (fun (s21, x22) => Ob_span_Reader g0 s21 :: G) (fun (s21, x22) J => (s21, x22) = j23) (fun kj23 => ?_) ?_
  · skip
    have lj23 := Mem.le.refl J17
    refine WC.region ?_
    refine mv rfl rfl ?_
    refine nc rfl rfl ?_
    refine fa fl94_2 rfl rfl ?_
    refine ld 0 na4 rfl rfl rfl rfl ?_
    refine mv rfl rfl ?_
    rcases spl hj23 with ⟨k24, hj23⟩ | ⟨k24, hj23⟩
    · skip
      refine WL.rb 24 rfl (bt1 k24) ?_
      refine WL.no rfl rfl rfl rfl ?_
      refine WL.no rfl rfl rfl rfl ?_
      refine pkT rfl rfl rfl ?_
      refine WL.nil ?_
      refine WX.shut_span_Reader (⟨p0.b_, p0.at_, p0.bad_⟩ : span_Reader) h4 ?_
      exact (kj23 ⟨(⟨p0.b_, p0.at_, p0.bad_⟩ : span_Reader), true⟩ _ lj23 (Option.some.inj hj23)).sub ⟨rfl, rfl, rfl, rfl, trivial⟩
    refine WL.rb 24 rfl (bf1 k24) ?_
    refine WL.on rfl rfl ?_
    refine mv rfl rfl ?_
    refine WL.on rfl rfl ?_
    refine nt rfl rfl ?_
    refine pkF rfl rfl rfl ?_
    refine WL.nil ?_
    refine WX.shut_span_Reader (⟨p0.b_, p0.at_, p0.bad_⟩ : span_Reader) h4 ?_
    exact (kj23 ⟨(⟨p0.b_, p0.at_, p0.bad_⟩ : span_Reader), (!x12)⟩ _ lj23 (Option.some.inj hj23)).sub ⟨rfl, rfl, rfl, rfl, trivial⟩
  rintro ⟨s21, x22⟩ J25 hJ26 rfl
  have hI := hI.trans hJ26
  refine WX.then_ ?_
  refine WC.iteb rfl h (fun k27 h => ?_) (fun k27 h => ?_)
  · skip
    refine WC.seq ?_
    refine WC.region ?_
    refine mv rfl rfl ?_
    refine nc rfl rfl ?_
    refine fa fl94_2 rfl rfl ?_
    refine WL.open_span_Reader (fun a28 c29 h30 => ?_)
    refine st (C' := #[(.slice a28 s21.b_.length c29), (.int .i64 s21.at_), (.bool true)]) sz4 rfl rfl rfl rfl rfl ?_
    refine WL.next ?_
    refine WC.seq ?_
    refine WC.region ?_
    refine asg rfl rfl ?_
    refine WL.next ?_
    refine WC.ret ?_
    refine WX.then_ret ?_
    refine WX.shut_span_Reader (⟨s21.b_, s21.at_, true⟩ : span_Reader) h30 ?_
    cases h
    exact ret1 Try.results74 rfl hI ⟨rfl, rfl⟩
  refine WC.skip ?_
  refine WX.then_ ?_
  refine WC.seq ?_
  refine WC.region ?_
  refine mv rfl rfl ?_
  refine mv rfl rfl ?_
  refine nc rfl rfl ?_
  refine fa fl94_1 rfl rfl ?_
  refine WL.open_span_Reader (fun a31 c32 h33 => ?_)
  refine ld 0 na3 rfl rfl rfl rfl ?_
  refine mv rfl rfl ?_
  refine ad rfl rfl rfl ?_
  refine nc rfl rfl ?_
  refine fa fl94_1 rfl rfl ?_
  refine st (C' := #[(.slice a31 s21.b_.length c32), (.int .i64 (w64 (s21.at_ + x11))), (.bool s21.bad_)]) sz3 rfl rfl rfl rfl rfl ?_
  refine WL.next ?_
  refine WC.seq ?_
  refine WC.region ?_
  refine mv rfl rfl ?_
  refine asg rfl rfl ?_
  refine WL.next ?_
  refine WC.ret ?_
  refine WX.shut_span_Reader (⟨s21.b_, w64 (s21.at_ + x11), s21.bad_⟩ : span_Reader) h33 ?_
  cases h
  exact ret1 Try.results74 rfl hI ⟨rfl, rfl⟩
theorem W47 {I : Mem} {G : List Asn} {p0 : span_Reader} {r : api_Packet × Bool × span_Reader} (h : packet_Take p0 = some r) {g0 : Nat} :
    CallsS Try.prog 47 #[.pointer (some ⟨g0, 0, none⟩)] I (Ob_span_Reader g0 p0 :: G) (fun v J G' => ∃ ra0_5 rc0_5, v = .tuple #[.agg #[.int .i64 r.1.Kind, .int .i64 r.1.Path, .int .i64 r.1.Number, .int .i64 r.1.Of, .int .i64 r.1.From, .slice ra0_5 r.1.Data.length rc0_5, .bool r.1.Fin, .int .i64 r.1.Seen, .int .i64 r.1.Limit], .bool r.2.1] ∧ IV J (.slice ra0_5 r.1.Data.length rc0_5) r.1.Data ∧ Ob_span_Reader g0 (r.2.2) :: G = G') := by
  refine CallsS.enter Try.func47 rfl Try.ntmps47 rfl (fun w0 => ?_)
  have hI := Mem.le.refl I
  unfold packet_Take at h
  refine WC.seq ?_
  refine WC.region ?_
  refine al Try.zeroValue41 rfl (fun g2 => ?_)
  refine asg rfl rfl ?_
  refine WL.next ?_
  refine WC.seq ?_
  refine WC.region ?_
  refine mv rfl rfl ?_
  refine WL.front 1 ?_
  obtain ⟨⟨x4, s5⟩, e6, h⟩ := bnd h
  refine call cl73 rfl rfl (W73 e6) (fun _ J7 _ hJ8 q9 => ?_)
  have hI := hI.trans hJ8
  obtain ⟨rfl, rfl⟩ := q9
  refine cv8i Try.underlying5 Try.underlying3 rfl rfl ?_
  refine mv rfl rfl ?_
  obtain ⟨⟨x10, s11⟩, e12, h⟩ := bnd h
  refine call cl74 rfl rfl (W74 e12) (fun _ J13 _ hJ14 q15 => ?_)
  have hI := hI.trans hJ14
  obtain ⟨rfl, rfl⟩ := q15
  refine mv rfl rfl ?_
  obtain ⟨⟨x16, s17⟩, e18, h⟩ := bnd h
  refine call cl74 rfl rfl (W74 e18) (fun _ J19 _ hJ20 q21 => ?_)
  have hI := hI.trans hJ20
  obtain ⟨rfl, rfl⟩ := q21
  refine bu bt41 rfl rfl rfl ?_
  refine al Try.zeroValue41 rfl (fun g22 => ?_)
  refine sta (C' := #[(.int .i64 (x4.toNat : Int)), (.int .i64 x10), (.int .i64 x16), (.int .i64 0), (.int .i64 0), (.slice none 0 0), (.bool false), (.int .i64 0), (.int .i64 0)]) sz41 rfl rfl rfl rfl rfl rfl ?_
  refine WL.next ?_
  refine WC.seq ?_
  refine WC.seq ?_
  refine WC.region ?_
  refine fa fl41_0 rfl rfl ?_
  refine ld 0 na3 rfl rfl rfl rfl ?_
  refine WL.next ?_
  refine WC.block ?_
  refine WC.seq ?_
  refine WC.region ?_
  refine eq rfl rfl rfl ?_
  refine asg rfl rfl ?_
  refine WL.next ?_
  refine WC.ite rfl h (fun k24 h => ?_) (fun k24 h => ?_)
  · skip
    refine WC.region ?_
    refine mv rfl rfl ?_
    refine WL.front 1 ?_
    obtain ⟨⟨x25, s26⟩, e27, h⟩ := bnd h
    refine call cl74 rfl rfl (W74 e27) (fun _ J28 _ hJ29 q30 => ?_)
    have hI := hI.trans hJ29
    obtain ⟨rfl, rfl⟩ := q30
    refine fa fl41_3 rfl rfl ?_
    refine WL.front 1 ?_
    refine st (C' := #[(.int .i64 (x4.toNat : Int)), (.int .i64 x10), (.int .i64 x16), (.int .i64 x25), (.int .i64 0), (.slice none 0 0), (.bool false), (.int .i64 0), (.int .i64 0)]) sz3 rfl rfl rfl rfl rfl ?_
    refine WL.nil ?_
    refine WX.block_normal ?_
    refine WX.then_ ?_
    refine WC.seq ?_
    refine WC.seq ?_
    refine WC.region ?_
    refine mv rfl rfl ?_
    refine WL.front 1 ?_
    obtain ⟨⟨x31, s32⟩, e33, h⟩ := bnd h
    refine call cl49 rfl rfl (W49 e33) (fun _ J34 _ hJ35 q36 => ?_)
    have hI := hI.trans hJ35
    obtain ⟨rfl, rfl⟩ := q36
    refine mv rfl rfl ?_
    rcases spl h with ⟨k37, h⟩ | ⟨k37, h⟩
    · skip
      refine WL.rb 50 rfl (bt1 k37) ?_
      refine WL.no rfl rfl rfl rfl ?_
      refine WL.no rfl rfl rfl rfl ?_
      refine WL.no rfl rfl rfl rfl ?_
      refine pkT rfl rfl rfl ?_
      refine WL.next ?_
      refine WC.cond rfl (fun _ => ?_) (fun k => by cases k)
      refine WC.seq ?_
      refine WC.region ?_
      refine bu bt41 rfl rfl rfl ?_
      refine WL.front 2 ?_
      refine sta (C' := #[(.int .i64 0), (.int .i64 0), (.int .i64 0), (.int .i64 0), (.int .i64 0), (.slice none 0 0), (.bool false), (.int .i64 0), (.int .i64 0)]) sz41 rfl rfl rfl rfl rfl rfl ?_
      refine asg rfl rfl ?_
      refine WL.del 2 ?_
      refine WL.next ?_
      refine WC.ret ?_
      refine WX.then_ret ?_
      refine WX.front 1 ?_
      cases h
      exact retC2x Try.results47 (fun a w ha hw => ⟨RC.cellA ha hw 1 rfl ya41 rfl rfl, RC.tmp ha rfl⟩) (fun w hw => hw |>.del 1) hI ⟨_, _, rfl, (IV.nil _ : IV _ _ ([] : List UInt8)), rfl⟩
    refine WL.rb 50 rfl (bf1 k37) ?_
    refine WL.on rfl rfl ?_
    refine lda 1 ya41 rfl rfl rfl rfl rfl ?_
    refine WL.on rfl rfl ?_
    obtain ⟨x38, e39, h⟩ := bnd h
    refine call cl32 rfl rfl (W32 e39 (IV.nil _ : IV _ _ ([] : List UInt8))) (fun _ J40 _ hJ41 q42 => ?_)
    have hI := hI.trans hJ41
    obtain ⟨rfl, rfl⟩ := q42
    refine WL.on rfl rfl ?_
    refine ne rfl rfl rfl ?_
    refine pkF rfl rfl rfl ?_
    refine WL.next ?_
    refine WC.ite rfl h (fun k43 h => ?_) (fun k43 h => ?_)
    · skip
      refine WC.seq ?_
      refine WC.region ?_
      refine bu bt41 rfl rfl rfl ?_
      refine WL.front 2 ?_
      refine sta (C' := #[(.int .i64 0), (.int .i64 0), (.int .i64 0), (.int .i64 0), (.int .i64 0), (.slice none 0 0), (.bool false), (.int .i64 0), (.int .i64 0)]) sz41 rfl rfl rfl rfl rfl rfl ?_
      refine asg rfl rfl ?_
      refine WL.del 2 ?_
      refine WL.next ?_
      refine WC.ret ?_
      refine WX.then_ret ?_
      refine WX.front 1 ?_
      cases h
      exact retC2x Try.results47 (fun a w ha hw => ⟨RC.cellA ha hw 1 rfl ya41 rfl rfl, RC.tmp ha rfl⟩) (fun w hw => hw |>.del 1) hI ⟨_, _, rfl, (IV.nil _ : IV _ _ ([] : List UInt8)), rfl⟩
    refine WC.skip ?_
    refine WX.then_ ?_
    refine WC.seq ?_
    refine WC.region ?_
    refine lda 1 ya41 rfl rfl rfl rfl rfl ?_
    refine WL.front 2 ?_
    refine sta (C' := #[(.int .i64 (x4.toNat : Int)), (.int .i64 x10), (.int .i64 x16), (.int .i64 x25), (.int .i64 0), (.slice none 0 0), (.bool false), (.int .i64 0), (.int .i64 0)]) sz41 rfl rfl rfl rfl rfl rfl ?_
    refine asg rfl rfl ?_
    refine WL.del 2 ?_
    refine WL.next ?_
    refine WC.ret ?_
    refine WX.front 1 ?_
    cases h
    exact retC2x Try.results47 (fun a w ha hw => ⟨RC.cellA ha hw 1 rfl ya41 rfl rfl, RC.tmp ha rfl⟩) (fun w hw => hw |>.del 1) hI ⟨_, _, rfl, (IV.nil _ : IV _ _ ([] : List UInt8)), rfl⟩
  refine WC.seq ?_
  refine WC.region ?_
  refine eq rfl rfl rfl ?_
  refine asg rfl rfl ?_
  refine WL.next ?_
  refine WC.ite rfl h (fun k44 h => ?_) (fun k44 h => ?_)
  · skip
    refine WC.seq ?_
    refine WC.region ?_
    refine mv rfl rfl ?_
    refine WL.front 1 ?_
    obtain ⟨⟨x45, s46⟩, e47, h⟩ := bnd h
    refine call cl74 rfl rfl (W74 e47) (fun _ J48 _ hJ49 q50 => ?_)
    have hI := hI.trans hJ49
    obtain ⟨rfl, rfl⟩ := q50
    refine mv rfl rfl ?_
    obtain ⟨⟨x51, s52⟩, e53, h⟩ := bnd h
    refine call cl75 rfl rfl (W75 e53) (fun _ J54 _ hJ55 q56 => ?_)
    have hI := hI.trans hJ55
    obtain ⟨a57, c58, rfl, rfl⟩ := q56
    refine fa fl41_4 rfl rfl ?_
    refine WL.front 2 ?_
    refine st (C' := #[(.int .i64 (x4.toNat : Int)), (.int .i64 x10), (.int .i64 x16), (.int .i64 0), (.int .i64 x45), (.slice none 0 0), (.bool false), (.int .i64 0), (.int .i64 0)]) sz3 rfl rfl rfl rfl rfl ?_
    refine fa fl41_5 rfl rfl ?_
    refine st (C' := #[(.int .i64 (x4.toNat : Int)), (.int .i64 x10), (.int .i64 x16), (.int .i64 0), (.int .i64 x45), (.slice a57 x51.length c58), (.bool false), (.int .i64 0), (.int .i64 0)]) sz22 rfl rfl rfl rfl rfl ?_
    refine WL.next ?_
    refine WC.seq ?_
    refine WC.region ?_
    refine mv rfl rfl ?_
    refine WL.front 2 ?_
    obtain ⟨⟨x60, s61⟩, e62, h⟩ := bnd h
    refine call cl73 rfl rfl (W73 e62) (fun _ J63 _ hJ64 q65 => ?_)
    have hI := hI.trans hJ64
    obtain ⟨rfl, rfl⟩ := q65
    refine asg rfl rfl ?_
    refine WL.next ?_
    refine WC.seq ?_
    refine WC.seq ?_
    refine WC.region ?_
    refine mv rfl rfl ?_
    refine gt rfl rfl rfl ?_
    refine WL.next ?_
    refine WC.ite rfl h (fun k66 h => ?_) (fun k66 h => ?_)
    · skip
      refine WC.seq ?_
      refine WC.region ?_
      refine bu bt41 rfl rfl rfl ?_
      refine WL.front 3 ?_
      refine sta (C' := #[(.int .i64 0), (.int .i64 0), (.int .i64 0), (.int .i64 0), (.int .i64 0), (.slice none 0 0), (.bool false), (.int .i64 0), (.int .i64 0)]) sz41 rfl rfl rfl rfl rfl rfl ?_
      refine asg rfl rfl ?_
      refine WL.del 2 ?_
      refine WL.next ?_
      refine WC.ret ?_
      refine WX.then_ret ?_
      refine WX.block_ret ?_
      refine WX.then_ret ?_
      refine WX.front 1 ?_
      cases h
      exact retC2x Try.results47 (fun a w ha hw => ⟨RC.cellA ha hw 1 rfl ya41 rfl rfl, RC.tmp ha rfl⟩) (fun w hw => hw |>.del 1 |>.del 1) hI ⟨_, _, rfl, (IV.nil _ : IV _ _ ([] : List UInt8)), rfl⟩
    refine WC.skip ?_
    refine WX.then_ ?_
    refine WC.region ?_
    refine mv rfl rfl ?_
    refine eq rfl rfl rfl ?_
    refine fa fl41_6 rfl rfl ?_
    refine WL.front 1 ?_
    refine st (C' := #[(.int .i64 (x4.toNat : Int)), (.int .i64 x10), (.int .i64 x16), (.int .i64 0), (.int .i64 x45), (.slice a57 x51.length c58), (.bool (decide ((x60.toNat : Int) = 1))), (.int .i64 0), (.int .i64 0)]) sz4 rfl rfl rfl rfl rfl ?_
    refine WL.nil ?_
    refine WX.block_normal ?_
    refine WX.then_ ?_
    refine WC.seq ?_
    refine WC.seq ?_
    refine WC.region ?_
    refine mv rfl rfl ?_
    refine WL.front 1 ?_
    obtain ⟨⟨x67, s68⟩, e69, h⟩ := bnd h
    refine call cl49 rfl rfl (W49 e69) (fun _ J70 _ hJ71 q72 => ?_)
    have hI := hI.trans hJ71
    obtain ⟨rfl, rfl⟩ := q72
    refine mv rfl rfl ?_
    rcases spl h with ⟨k73, h⟩ | ⟨k73, h⟩
    · skip
      refine WL.rb 50 rfl (bt1 k73) ?_
      refine WL.no rfl rfl rfl rfl ?_
      refine WL.no rfl rfl rfl rfl ?_
      refine WL.no rfl rfl rfl rfl ?_
      refine pkT rfl rfl rfl ?_
      refine WL.next ?_
      refine WC.cond rfl (fun _ => ?_) (fun k => by cases k)
      refine WC.seq ?_
      refine WC.region ?_
      refine bu bt41 rfl rfl rfl ?_
      refine WL.front 3 ?_
      refine sta (C' := #[(.int .i64 0), (.int .i64 0), (.int .i64 0), (.int .i64 0), (.int .i64 0), (.slice none 0 0), (.bool false), (.int .i64 0), (.int .i64 0)]) sz41 rfl rfl rfl rfl rfl rfl ?_
      refine asg rfl rfl ?_
      refine WL.del 2 ?_
      refine WL.next ?_
      refine WC.ret ?_
      refine WX.then_ret ?_
      refine WX.front 1 ?_
      cases h
      exact retC2x Try.results47 (fun a w ha hw => ⟨RC.cellA ha hw 1 rfl ya41 rfl rfl, RC.tmp ha rfl⟩) (fun w hw => hw |>.del 1 |>.del 1) hI ⟨_, _, rfl, (IV.nil _ : IV _ _ ([] : List UInt8)), rfl⟩
    refine WL.rb 50 rfl (bf1 k73) ?_
    refine WL.on rfl rfl ?_
    refine lda 1 ya41 rfl rfl rfl rfl rfl ?_
    refine WL.on rfl rfl ?_
    refine WL.front 2 ?_
    refine WL.freeze (fun J74 hJ75 h76 => ?_)
    have hI := hI.trans hJ75
    obtain ⟨x77, e78, h⟩ := bnd h
    refine call cl32 rfl rfl (W32 e78 h76) (fun _ J79 _ hJ80 q81 => ?_)
    have hI := hI.trans hJ80
    replace h76 := h76.up hJ80
    obtain ⟨rfl, rfl⟩ := q81
    refine WL.on rfl rfl ?_
    refine ne rfl rfl rfl ?_
    refine pkF rfl rfl rfl ?_
    refine WL.next ?_
    refine WC.ite rfl h (fun k82 h => ?_) (fun k82 h => ?_)
    · skip
      refine WC.seq ?_
      refine WC.region ?_
      refine bu bt41 rfl rfl rfl ?_
      refine WL.front 2 ?_
      refine sta (C' := #[(.int .i64 0), (.int .i64 0), (.int .i64 0), (.int .i64 0), (.int .i64 0), (.slice none 0 0), (.bool false), (.int .i64 0), (.int .i64 0)]) sz41 rfl rfl rfl rfl rfl rfl ?_
      refine asg rfl rfl ?_
      refine WL.del 2 ?_
      refine WL.next ?_
      refine WC.ret ?_
      refine WX.then_ret ?_
      refine WX.front 1 ?_
      cases h
      exact retC2x Try.results47 (fun a w ha hw => ⟨RC.cellA ha hw 1 rfl ya41 rfl rfl, RC.tmp ha rfl⟩) (fun w hw => hw |>.del 1) hI ⟨_, _, rfl, (IV.nil _ : IV _ _ ([] : List UInt8)), rfl⟩
    refine WC.skip ?_
    refine WX.then_ ?_
    refine WC.seq ?_
    refine WC.region ?_
    refine lda 1 ya41 rfl rfl rfl rfl rfl ?_
    refine WL.front 2 ?_
    refine sta (C' := #[(.int .i64 (x4.toNat : Int)), (.int .i64 x10), (.int .i64 x16), (.int .i64 0), (.int .i64 x45), (.slice a57 x51.length c58), (.bool (decide ((x60.toNat : Int) = 1))), (.int .i64 0), (.int .i64 0)]) sz41 rfl rfl rfl rfl rfl rfl ?_
    refine asg rfl rfl ?_
    refine WL.del 2 ?_
    refine WL.next ?_
    refine WC.ret ?_
    refine WX.front 1 ?_
    cases h
    exact retC2x Try.results47 (fun a w ha hw => ⟨RC.cellA ha hw 1 rfl ya41 rfl rfl, RC.tmp ha rfl⟩) (fun w hw => hw |>.del 1) hI ⟨_, _, rfl, h76, rfl⟩
  refine WC.seq ?_
  refine WC.region ?_
  refine eq rfl rfl rfl ?_
  refine asg rfl rfl ?_
  refine WL.next ?_
  refine WC.ite rfl h (fun k83 h => ?_) (fun k83 h => ?_)
  · skip
    refine WC.region ?_
    refine mv rfl rfl ?_
    refine WL.front 1 ?_
    obtain ⟨⟨x84, s85⟩, e86, h⟩ := bnd h
    refine call cl74 rfl rfl (W74 e86) (fun _ J87 _ hJ88 q89 => ?_)
    have hI := hI.trans hJ88
    obtain ⟨rfl, rfl⟩ := q89
    refine mv rfl rfl ?_
    obtain ⟨⟨x90, s91⟩, e92, h⟩ := bnd h
    refine call cl74 rfl rfl (W74 e92) (fun _ J93 _ hJ94 q95 => ?_)
    have hI := hI.trans hJ94
    obtain ⟨rfl, rfl⟩ := q95
    refine mv rfl rfl ?_
    obtain ⟨⟨x96, s97⟩, e98, h⟩ := bnd h
    refine call cl74 rfl rfl (W74 e98) (fun _ J99 _ hJ100 q101 => ?_)
    have hI := hI.trans hJ100
    obtain ⟨rfl, rfl⟩ := q101
    refine fa fl41_3 rfl rfl ?_
    refine WL.front 1 ?_
    refine st (C' := #[(.int .i64 (x4.toNat : Int)), (.int .i64 x10), (.int .i64 x16), (.int .i64 x84), (.int .i64 0), (.slice none 0 0), (.bool false), (.int .i64 0), (.int .i64 0)]) sz3 rfl rfl rfl rfl rfl ?_
    refine fa fl41_7 rfl rfl ?_
    refine st (C' := #[(.int .i64 (x4.toNat : Int)), (.int .i64 x10), (.int .i64 x16), (.int .i64 x84), (.int .i64 0), (.slice none 0 0), (.bool false), (.int .i64 x90), (.int .i64 0)]) sz3 rfl rfl rfl rfl rfl ?_
    refine fa fl41_8 rfl rfl ?_
    refine st (C' := #[(.int .i64 (x4.toNat : Int)), (.int .i64 x10), (.int .i64 x16), (.int .i64 x84), (.int .i64 0), (.slice none 0 0), (.bool false), (.int .i64 x90), (.int .i64 x96)]) sz3 rfl rfl rfl rfl rfl ?_
    refine WL.nil ?_
    refine WX.block_normal ?_
    refine WX.then_ ?_
    refine WC.seq ?_
    refine WC.seq ?_
    refine WC.region ?_
    refine mv rfl rfl ?_
    refine WL.front 1 ?_
    obtain ⟨⟨x102, s103⟩, e104, h⟩ := bnd h
    refine call cl49 rfl rfl (W49 e104) (fun _ J105 _ hJ106 q107 => ?_)
    have hI := hI.trans hJ106
    obtain ⟨rfl, rfl⟩ := q107
    refine mv rfl rfl ?_
    rcases spl h with ⟨k108, h⟩ | ⟨k108, h⟩
    · skip
      refine WL.rb 50 rfl (bt1 k108) ?_
      refine WL.no rfl rfl rfl rfl ?_
      refine WL.no rfl rfl rfl rfl ?_
      refine WL.no rfl rfl rfl rfl ?_
      refine pkT rfl rfl rfl ?_
      refine WL.next ?_
      refine WC.cond rfl (fun _ => ?_) (fun k => by cases k)
      refine WC.seq ?_
      refine WC.region ?_
      refine bu bt41 rfl rfl rfl ?_
      refine WL.front 2 ?_
      refine sta (C' := #[(.int .i64 0), (.int .i64 0), (.int .i64 0), (.int .i64 0), (.int .i64 0), (.slice none 0 0), (.bool false), (.int .i64 0), (.int .i64 0)]) sz41 rfl rfl rfl rfl rfl rfl ?_
      refine asg rfl rfl ?_
      refine WL.del 2 ?_
      refine WL.next ?_
      refine WC.ret ?_
      refine WX.then_ret ?_
      refine WX.front 1 ?_
      cases h
      exact retC2x Try.results47 (fun a w ha hw => ⟨RC.cellA ha hw 1 rfl ya41 rfl rfl, RC.tmp ha rfl⟩) (fun w hw => hw |>.del 1) hI ⟨_, _, rfl, (IV.nil _ : IV _ _ ([] : List UInt8)), rfl⟩
    refine WL.rb 50 rfl (bf1 k108) ?_
    refine WL.on rfl rfl ?_
    refine lda 1 ya41 rfl rfl rfl rfl rfl ?_
    refine WL.on rfl rfl ?_
    obtain ⟨x109, e110, h⟩ := bnd h
    refine call cl32 rfl rfl (W32 e110 (IV.nil _ : IV _ _ ([] : List UInt8))) (fun _ J111 _ hJ112 q113 => ?_)
    have hI := hI.trans hJ112
    obtain ⟨rfl, rfl⟩ := q113
    refine WL.on rfl rfl ?_
    refine ne rfl rfl rfl ?_
    refine pkF rfl rfl rfl ?_
    refine WL.next ?_
    refine WC.ite rfl h (fun k114 h => ?_) (fun k114 h => ?_)
    · skip
      refine WC.seq ?_
      refine WC.region ?_
      refine bu bt41 rfl rfl rfl ?_
      refine WL.front 2 ?_
      refine sta (C' := #[(.int .i64 0), (.int .i64 0), (.int .i64 0), (.int .i64 0), (.int .i64 0), (.slice none 0 0), (.bool false), (.int .i64 0), (.int .i64 0)]) sz41 rfl rfl rfl rfl rfl rfl ?_
      refine asg rfl rfl ?_
      refine WL.del 2 ?_
      refine WL.next ?_
      refine WC.ret ?_
      refine WX.then_ret ?_
      refine WX.front 1 ?_
      cases h
      exact retC2x Try.results47 (fun a w ha hw => ⟨RC.cellA ha hw 1 rfl ya41 rfl rfl, RC.tmp ha rfl⟩) (fun w hw => hw |>.del 1) hI ⟨_, _, rfl, (IV.nil _ : IV _ _ ([] : List UInt8)), rfl⟩
    refine WC.skip ?_
    refine WX.then_ ?_
    refine WC.seq ?_
    refine WC.region ?_
    refine lda 1 ya41 rfl rfl rfl rfl rfl ?_
    refine WL.front 2 ?_
    refine sta (C' := #[(.int .i64 (x4.toNat : Int)), (.int .i64 x10), (.int .i64 x16), (.int .i64 x84), (.int .i64 0), (.slice none 0 0), (.bool false), (.int .i64 x90), (.int .i64 x96)]) sz41 rfl rfl rfl rfl rfl rfl ?_
    refine asg rfl rfl ?_
    refine WL.del 2 ?_
    refine WL.next ?_
    refine WC.ret ?_
    refine WX.front 1 ?_
    cases h
    exact retC2x Try.results47 (fun a w ha hw => ⟨RC.cellA ha hw 1 rfl ya41 rfl rfl, RC.tmp ha rfl⟩) (fun w hw => hw |>.del 1) hI ⟨_, _, rfl, (IV.nil _ : IV _ _ ([] : List UInt8)), rfl⟩
  refine WC.skip ?_
  refine WX.block_normal ?_
  refine WX.then_ ?_
  refine WC.seq ?_
  refine WC.seq ?_
  refine WC.region ?_
  refine mv rfl rfl ?_
  refine WL.front 1 ?_
  obtain ⟨⟨x115, s116⟩, e117, h⟩ := bnd h
  refine call cl49 rfl rfl (W49 e117) (fun _ J118 _ hJ119 q120 => ?_)
  have hI := hI.trans hJ119
  obtain ⟨rfl, rfl⟩ := q120
  refine mv rfl rfl ?_
  rcases spl h with ⟨k121, h⟩ | ⟨k121, h⟩
  · skip
    refine WL.rb 50 rfl (bt1 k121) ?_
    refine WL.no rfl rfl rfl rfl ?_
    refine WL.no rfl rfl rfl rfl ?_
    refine WL.no rfl rfl rfl rfl ?_
    refine pkT rfl rfl rfl ?_
    refine WL.next ?_
    refine WC.cond rfl (fun _ => ?_) (fun k => by cases k)
    refine WC.seq ?_
    refine WC.region ?_
    refine bu bt41 rfl rfl rfl ?_
    refine WL.front 2 ?_
    refine sta (C' := #[(.int .i64 0), (.int .i64 0), (.int .i64 0), (.int .i64 0), (.int .i64 0), (.slice none 0 0), (.bool false), (.int .i64 0), (.int .i64 0)]) sz41 rfl rfl rfl rfl rfl rfl ?_
    refine asg rfl rfl ?_
    refine WL.del 2 ?_
    refine WL.next ?_
    refine WC.ret ?_
    refine WX.then_ret ?_
    refine WX.front 1 ?_
    cases h
    exact retC2x Try.results47 (fun a w ha hw => ⟨RC.cellA ha hw 1 rfl ya41 rfl rfl, RC.tmp ha rfl⟩) (fun w hw => hw |>.del 1) hI ⟨_, _, rfl, (IV.nil _ : IV _ _ ([] : List UInt8)), rfl⟩
  refine WL.rb 50 rfl (bf1 k121) ?_
  refine WL.on rfl rfl ?_
  refine lda 1 ya41 rfl rfl rfl rfl rfl ?_
  refine WL.on rfl rfl ?_
  obtain ⟨x122, e123, h⟩ := bnd h
  refine call cl32 rfl rfl (W32 e123 (IV.nil _ : IV _ _ ([] : List UInt8))) (fun _ J124 _ hJ125 q126 => ?_)
  have hI := hI.trans hJ125
  obtain ⟨rfl, rfl⟩ := q126
  refine WL.on rfl rfl ?_
  refine ne rfl rfl rfl ?_
  refine pkF rfl rfl rfl ?_
  refine WL.next ?_
  refine WC.ite rfl h (fun k127 h => ?_) (fun k127 h => ?_)
  · skip
    refine WC.seq ?_
    refine WC.region ?_
    refine bu bt41 rfl rfl rfl ?_
    refine WL.front 2 ?_
    refine sta (C' := #[(.int .i64 0), (.int .i64 0), (.int .i64 0), (.int .i64 0), (.int .i64 0), (.slice none 0 0), (.bool false), (.int .i64 0), (.int .i64 0)]) sz41 rfl rfl rfl rfl rfl rfl ?_
    refine asg rfl rfl ?_
    refine WL.del 2 ?_
    refine WL.next ?_
    refine WC.ret ?_
    refine WX.then_ret ?_
    refine WX.front 1 ?_
    cases h
    exact retC2x Try.results47 (fun a w ha hw => ⟨RC.cellA ha hw 1 rfl ya41 rfl rfl, RC.tmp ha rfl⟩) (fun w hw => hw |>.del 1) hI ⟨_, _, rfl, (IV.nil _ : IV _ _ ([] : List UInt8)), rfl⟩
  refine WC.skip ?_
  refine WX.then_ ?_
  refine WC.seq ?_
  refine WC.region ?_
  refine lda 1 ya41 rfl rfl rfl rfl rfl ?_
  refine WL.front 2 ?_
  refine sta (C' := #[(.int .i64 (x4.toNat : Int)), (.int .i64 x10), (.int .i64 x16), (.int .i64 0), (.int .i64 0), (.slice none 0 0), (.bool false), (.int .i64 0), (.int .i64 0)]) sz41 rfl rfl rfl rfl rfl rfl ?_
  refine asg rfl rfl ?_
  refine WL.del 2 ?_
  refine WL.next ?_
  refine WC.ret ?_
  refine WX.front 1 ?_
  cases h
  exact retC2x Try.results47 (fun a w ha hw => ⟨RC.cellA ha hw 1 rfl ya41 rfl rfl, RC.tmp ha rfl⟩) (fun w hw => hw |>.del 1) hI ⟨_, _, rfl, (IV.nil _ : IV _ _ ([] : List UInt8)), rfl⟩
theorem W11 {I : Mem} {G : List Asn} {p0 : Int} {p1 : Int} {p2 : Int} {p3 : Bool} {r : Bool} (h : haulierlaw06_PacketForms p0 p1 p2 p3 = some r) :
    CallsS Try.prog 11 #[.int .i64 p0, .int .i64 p1, .int .i64 p2, .bool p3] I (G) (fun v J G' => v = .bool r ∧ G = G') := by
  refine CallsS.enter Try.func11 rfl Try.ntmps11 rfl (fun w0 => ?_)
  have hI := Mem.le.refl I
  unfold haulierlaw06_PacketForms at h
  refine WC.seq ?_
  refine WC.region ?_
  refine asg rfl rfl ?_
  refine WL.next ?_
  refine WC.seq ?_
  refine WC.region ?_
  refine mv rfl rfl ?_
  obtain ⟨x1, e2, h⟩ := bnd h
  refine call cl19 rfl rfl (W19 e2) (fun _ J3 _ hJ4 q5 => ?_)
  have hI := hI.trans hJ4
  obtain ⟨rfl, rfl⟩ := q5
  refine mv rfl rfl ?_
  obtain ⟨x6, e7, h⟩ := bnd h
  refine call cl19 rfl rfl (W19 e7) (fun _ J8 _ hJ9 q10 => ?_)
  have hI := hI.trans hJ9
  obtain ⟨rfl, rfl⟩ := q10
  refine mv rfl rfl ?_
  obtain ⟨x11, e12, h⟩ := bnd h
  refine call cl19 rfl rfl (W19 e12) (fun _ J13 _ hJ14 q15 => ?_)
  have hI := hI.trans hJ14
  obtain ⟨rfl, rfl⟩ := q15
  refine asg rfl rfl ?_
  refine asg rfl rfl ?_
  refine asg rfl rfl ?_
  refine WL.next ?_
  refine WC.seq ?_
  refine WC.region ?_
  refine asg rfl rfl ?_
  refine WL.next ?_
  refine WC.seq ?_
  refine WC.seq ?_
  refine WC.region ?_
  refine mv rfl rfl ?_
  refine WL.next ?_
  obtain ⟨j18, hj18, h⟩ := bnd h
  refine WC.joinQ (σ := UInt8) (fun x17 => [(0, (.int .i64 x1)), (1, (.int .i64 x6)), (2, (.int .i64 x11)), (3, (.bool p3)), (9, (.int .u8 (x17.toNat : Int)))]) (fun x17 => G) (fun x17 J => x17 = j18) (fun kj18 => ?_) ?_
  · skip
    have lj18 := Mem.le.refl J13
    refine WC.iteb rfl hj18 (fun k19 hj18 => ?_) (fun k19 hj18 => ?_)
    · skip
      refine WC.region ?_
      refine asg rfl rfl ?_
      refine WL.nil ?_
      exact (kj18 (1 : UInt8) _ lj18 (Option.some.inj hj18)).sub ⟨rfl, rfl, rfl, rfl, rfl, trivial⟩
    refine WC.skip ?_
    exact (kj18 (0 : UInt8) _ lj18 (Option.some.inj hj18)).sub ⟨rfl, rfl, rfl, rfl, rfl, trivial⟩
  rintro x17 J20 hJ21 rfl
  have hI := hI.trans hJ21
  refine WX.then_ ?_
  refine WC.seq ?_
  refine WC.seq ?_
  refine WC.region ?_
  refine mv rfl rfl ?_
  refine bu bt41 rfl rfl rfl ?_
  refine mv rfl rfl ?_
  refine cv8 Try.underlying3 Try.underlying5 rfl rfl ?_
  refine bs (os := [.const (.int .u8 1), .const (.int .u8 2), .tmp 27]) (xs := ([(1 : UInt8), (2 : UInt8), (u8of x1)] : List UInt8)) et22 rfl rfl ⟨(Rv.of_u8 _ (1 : UInt8)), (Rv.of_u8 _ (2 : UInt8)), (Rv.of_u8 _ (u8of x1)), trivial⟩ rfl rfl rfl rfl (fun a22 c23 => ?_)
  refine bu (cs := #[(.int .i64 1), (.int .i64 2), (.int .i64 x1), (.int .i64 0), (.int .i64 0), (.slice none 0 0), (.bool false), (.int .i64 0), (.int .i64 0), (.slice a22 ([(1 : UInt8), (2 : UInt8), (u8of x1)]).length c23)]) bt64 rfl (by kernel_rfl) rfl ?_
  refine mv rfl rfl ?_
  refine bu bt41 rfl rfl rfl ?_
  refine mv rfl rfl ?_
  refine cv8 Try.underlying3 Try.underlying5 rfl rfl ?_
  obtain ⟨x28, e29, h⟩ := bnd h
  refine bs (os := [.const (.int .u8 2), .const (.int .u8 0), .const (.int .u8 65), .const (.int .u8 44), .tmp 33]) (xs := ([(2 : UInt8), (0 : UInt8), (65 : UInt8), (44 : UInt8), (u8of x1)] : List UInt8)) et22 rfl rfl ⟨(Rv.of_u8 _ (2 : UInt8)), (Rv.of_u8 _ (0 : UInt8)), (Rv.of_u8 _ (65 : UInt8)), (Rv.of_u8 _ (44 : UInt8)), (Rv.of_u8 _ (u8of x1)), trivial⟩ rfl rfl rfl rfl (fun a25 c26 => ?_)
  refine WL.ren (Option.some.inj e29) ?_
  refine bu (cs := #[(.int .i64 2), (.int .i64 0), (.int .i64 300), (.int .i64 x1), (.int .i64 0), (.slice none 0 0), (.bool false), (.int .i64 0), (.int .i64 0), (.slice a25 x28.length c26)]) bt64 rfl (by kernel_rfl) rfl ?_
  refine mv rfl rfl ?_
  refine mv rfl rfl ?_
  refine bs (os := [.const (.int .u8 97), .const (.int .u8 98)]) (xs := ([(97 : UInt8), (98 : UInt8)] : List UInt8)) et22 rfl rfl ⟨(Rv.of_u8 _ (97 : UInt8)), (Rv.of_u8 _ (98 : UInt8)), trivial⟩ rfl rfl rfl rfl (fun a30 c31 => ?_)
  refine cvl Try.underlying22 Try.underlying5 rfl rfl rfl (fun J33 hJ34 h35 => ?_)
  have hI := hI.trans hJ34
  refine mv rfl rfl ?_
  refine bu bt41 rfl rfl rfl ?_
  refine mv rfl rfl ?_
  refine cv8 Try.underlying3 Try.underlying5 rfl rfl ?_
  refine mv rfl rfl ?_
  refine cv8 Try.underlying3 Try.underlying5 rfl rfl ?_
  refine mv rfl rfl ?_
  obtain ⟨x39, e40, h⟩ := bnd h
  refine bs (os := [.const (.int .u8 3), .const (.int .u8 1), .tmp 43, .tmp 45, .const (.int .u8 2), .const (.int .u8 97), .const (.int .u8 98), .tmp 46]) (xs := ([(3 : UInt8), (1 : UInt8), (u8of x1), (u8of x6), (2 : UInt8), (97 : UInt8), (98 : UInt8), x17] : List UInt8)) et22 rfl rfl ⟨(Rv.of_u8 _ (3 : UInt8)), (Rv.of_u8 _ (1 : UInt8)), (Rv.of_u8 _ (u8of x1)), (Rv.of_u8 _ (u8of x6)), (Rv.of_u8 _ (2 : UInt8)), (Rv.of_u8 _ (97 : UInt8)), (Rv.of_u8 _ (98 : UInt8)), (Rv.of_u8 _ x17), trivial⟩ rfl rfl rfl rfl (fun a36 c37 => ?_)
  refine WL.ren (Option.some.inj e40) ?_
  refine bu (cs := #[(.int .i64 3), (.int .i64 1), (.int .i64 x1), (.int .i64 0), (.int .i64 x6), (.slice a30 ([(97 : UInt8), (98 : UInt8)]).length c31), (.bool p3), (.int .i64 0), (.int .i64 0), (.slice a36 x39.length c37)]) bt64 rfl (by kernel_rfl) rfl ?_
  refine mv rfl rfl ?_
  refine bu bt41 rfl rfl rfl ?_
  refine mv rfl rfl ?_
  refine cv8 Try.underlying3 Try.underlying5 rfl rfl ?_
  obtain ⟨x44, e45, h⟩ := bnd h
  refine bs (os := [.const (.int .u8 3), .const (.int .u8 0), .tmp 52, .const (.int .u8 80), .const (.int .u8 0), .const (.int .u8 0), .const (.int .u8 0)]) (xs := ([(3 : UInt8), (0 : UInt8), (u8of x1), (80 : UInt8), (0 : UInt8), (0 : UInt8), (0 : UInt8)] : List UInt8)) et22 rfl rfl ⟨(Rv.of_u8 _ (3 : UInt8)), (Rv.of_u8 _ (0 : UInt8)), (Rv.of_u8 _ (u8of x1)), (Rv.of_u8 _ (80 : UInt8)), (Rv.of_u8 _ (0 : UInt8)), (Rv.of_u8 _ (0 : UInt8)), (Rv.of_u8 _ (0 : UInt8)), trivial⟩ rfl rfl rfl rfl (fun a41 c42 => ?_)
  refine WL.ren (Option.some.inj e45) ?_
  refine bu (cs := #[(.int .i64 3), (.int .i64 0), (.int .i64 x1), (.int .i64 0), (.int .i64 4096), (.slice none 0 0), (.bool false), (.int .i64 0), (.int .i64 0), (.slice a41 x44.length c42)]) bt64 rfl (by kernel_rfl) rfl ?_
  refine mv rfl rfl ?_
  refine mv rfl rfl ?_
  refine bu bt41 rfl rfl rfl ?_
  refine mv rfl rfl ?_
  refine cv8 Try.underlying3 Try.underlying5 rfl rfl ?_
  refine mv rfl rfl ?_
  refine cv8 Try.underlying3 Try.underlying5 rfl rfl ?_
  obtain ⟨x49, e50, h⟩ := bnd h
  refine bs (os := [.const (.int .u8 4), .const (.int .u8 1), .tmp 59, .const (.int .u8 128), .const (.int .u8 0), .const (.int .u8 255), .const (.int .u8 255), .tmp 61, .const (.int .u8 64), .const (.int .u8 100)]) (xs := ([(4 : UInt8), (1 : UInt8), (u8of x1), (128 : UInt8), (0 : UInt8), (255 : UInt8), (255 : UInt8), (u8of x11), (64 : UInt8), (100 : UInt8)] : List UInt8)) et22 rfl rfl ⟨(Rv.of_u8 _ (4 : UInt8)), (Rv.of_u8 _ (1 : UInt8)), (Rv.of_u8 _ (u8of x1)), (Rv.of_u8 _ (128 : UInt8)), (Rv.of_u8 _ (0 : UInt8)), (Rv.of_u8 _ (255 : UInt8)), (Rv.of_u8 _ (255 : UInt8)), (Rv.of_u8 _ (u8of x11)), (Rv.of_u8 _ (64 : UInt8)), (Rv.of_u8 _ (100 : UInt8)), trivial⟩ rfl rfl rfl rfl (fun a46 c47 => ?_)
  refine WL.ren (Option.some.inj e50) ?_
  refine bu (cs := #[(.int .i64 4), (.int .i64 1), (.int .i64 x1), (.int .i64 65535), (.int .i64 0), (.slice none 0 0), (.bool false), (.int .i64 x11), (.int .i64 100), (.slice a46 x49.length c47)]) bt64 rfl (by kernel_rfl) rfl ?_
  refine WL.front 4 ?_
  refine WL.freeze (fun J54 hJ55 h56 => ?_)
  have hI := hI.trans hJ55
  replace h35 := h35.up hJ55
  refine WL.front 3 ?_
  refine WL.freeze (fun J57 hJ58 h59 => ?_)
  have hI := hI.trans hJ58
  replace h56 := h56.up hJ58; replace h35 := h35.up hJ58
  refine WL.front 2 ?_
  refine WL.freeze (fun J60 hJ61 h62 => ?_)
  have hI := hI.trans hJ61
  replace h56 := h56.up hJ61; replace h59 := h59.up hJ61; replace h35 := h35.up hJ61
  refine WL.front 1 ?_
  refine WL.freeze (fun J63 hJ64 h65 => ?_)
  have hI := hI.trans hJ64
  replace h56 := h56.up hJ64; replace h59 := h59.up hJ64; replace h35 := h35.up hJ64; replace h62 := h62.up hJ64
  refine WL.freeze (fun J66 hJ67 h68 => ?_)
  have hI := hI.trans hJ67
  replace h56 := h56.up hJ67; replace h59 := h59.up hJ67; replace h35 := h35.up hJ67; replace h62 := h62.up hJ67; replace h65 := h65.up hJ67
  obtain ⟨x69, e70, h⟩ := bnd h
  refine bs (os := [.tmp 29, .tmp 35, .tmp 48, .tmp 54, .tmp 63]) (xs := ([(⟨⟨1, 2, x1, 0, 0, ([] : List UInt8), false, 0, 0⟩, ([(1 : UInt8), (2 : UInt8), (u8of x1)] : List UInt8)⟩ : Anon64), (⟨⟨2, 0, 300, x1, 0, ([] : List UInt8), false, 0, 0⟩, x28⟩ : Anon64), (⟨⟨3, 1, x1, 0, x6, ([(97 : UInt8), (98 : UInt8)] : List UInt8), p3, 0, 0⟩, x39⟩ : Anon64), (⟨⟨3, 0, x1, 0, 4096, ([] : List UInt8), false, 0, 0⟩, x44⟩ : Anon64), (⟨⟨4, 1, x1, 65535, 0, ([] : List UInt8), false, x11, 100⟩, x49⟩ : Anon64)] : List Anon64)) et65 rfl rfl ⟨(Rv.mk_Anon64 (⟨⟨1, 2, x1, 0, 0, ([] : List UInt8), false, 0, 0⟩, ([(1 : UInt8), (2 : UInt8), (u8of x1)] : List UInt8)⟩ : Anon64) (IV.nil _ : IV _ _ ([] : List UInt8)) h56), (Rv.mk_Anon64 (⟨⟨2, 0, 300, x1, 0, ([] : List UInt8), false, 0, 0⟩, x28⟩ : Anon64) (IV.nil _ : IV _ _ ([] : List UInt8)) h59), (Rv.mk_Anon64 (⟨⟨3, 1, x1, 0, x6, ([(97 : UInt8), (98 : UInt8)] : List UInt8), p3, 0, 0⟩, x39⟩ : Anon64) h35 h62), (Rv.mk_Anon64 (⟨⟨3, 0, x1, 0, 4096, ([] : List UInt8), false, 0, 0⟩, x44⟩ : Anon64) (IV.nil _ : IV _ _ ([] : List UInt8)) h65), (Rv.mk_Anon64 (⟨⟨4, 1, x1, 65535, 0, ([] : List UInt8), false, x11, 100⟩, x49⟩ : Anon64) (IV.nil _ : IV _ _ ([] : List UInt8)) h68), trivial⟩ rfl rfl rfl rfl (fun a51 c52 => ?_)
  refine WL.ren (Option.some.inj e70) ?_
  refine ln et65 rfl (OV.rd 0 rfl) rfl ?_
  refine mv rfl rfl ?_
  refine WL.next ?_
  refine WC.block ?_
  refine WC.loop (σ := Int) (fun k x71 => haulierlaw06_PacketForms_l0 x69 k x71) _ (fun x71 => [(64, (.slice a51 x69.length c52)), (65, (.int .i64 (x69.length : Int))), (66, (.int .i64 x71))]) (fun x71 => OV 64 (.slice a51 x69.length c52) x69 :: G) (fun x71 J => True) (fun x71 => rfl) bigN 0 h trivial ⟨rfl, rfl, rfl, trivial⟩ rfl ?_
  rintro k0 ih0 x71 J166 hJ167 - h
  change haulierlaw06_PacketForms_l0 x69 (k0 + 1) x71 = _ at h
  rw [haulierlaw06_PacketForms_l0] at h
  have hI := hI.trans hJ167
  have ll0 := hJ167
  refine WC.seq ?_
  refine WC.region ?_
  refine lt rfl rfl rfl ?_
  refine WL.next ?_
  refine WC.seq ?_
  refine WC.ite rfl h (fun k168 h => ?_) (fun k168 h => ?_)
  · skip
    refine WC.skip ?_
    refine WX.then_ ?_
    refine WC.seq ?_
    refine WC.block ?_
    refine WC.seq ?_
    refine WC.region ?_
    obtain ⟨k169, h⟩ := chk h
    refine ixo 0 et65 rfl rfl rfl k169 rfl (fun uv170 h171 => ?_)
    obtain ⟨z174, e175, h⟩ := bnd h
    refine ldo (α := Anon64) 0 ya64 rfl h171 rfl e175 rfl (fun uv172 h173 => ?_)
    obtain ⟨a176, c177, a179, c180, rfl, h178, h181⟩ := Rv.of_Anon64 h173
    refine al Try.zeroValue64 rfl (fun g182 => ?_)
    refine sta (C' := #[(.int .i64 z174.p_.Kind), (.int .i64 z174.p_.Path), (.int .i64 z174.p_.Number), (.int .i64 z174.p_.Of), (.int .i64 z174.p_.From), (.slice a176 z174.p_.Data.length c177), (.bool z174.p_.Fin), (.int .i64 z174.p_.Seen), (.int .i64 z174.p_.Limit), (.slice a179 z174.b_.length c180)]) sz64 rfl rfl rfl rfl rfl rfl ?_
    refine WL.next ?_
    refine WC.seq ?_
    refine WC.region ?_
    refine fa fl64_0 rfl rfl ?_
    refine lda 0 ya41 rfl rfl rfl rfl rfl ?_
    obtain ⟨⟨x184, x185⟩, e186, h⟩ := bnd h
    refine call cl31 rfl rfl (W31 e186 h178) (fun _ J187 _ hJ188 q189 => ?_)
    have hI := hI.trans hJ188
    have ll0 := ll0.trans hJ188
    replace h178 := h178.up hJ188; replace h181 := h181.up hJ188
    obtain ⟨a190, c191, rfl, rfl⟩ := q189
    refine mv rfl rfl ?_
    refine ex rfl rfl rfl ?_
    refine ex rfl rfl rfl ?_
    refine asg rfl rfl ?_
    refine asg rfl rfl ?_
    refine WL.next ?_
    refine WC.seq ?_
    refine WC.region ?_
    refine fa fl64_1 rfl rfl ?_
    refine ld 1 na22 rfl rfl rfl rfl ?_
    obtain ⟨s193, e194, h⟩ := bnd h
    refine call cl46 rfl rfl (W46 e194 h181) (fun _ J195 _ hJ196 q197 => ?_)
    have hI := hI.trans hJ196
    have ll0 := ll0.trans hJ196
    replace h181 := h181.up hJ196; replace h178 := h178.up hJ196
    obtain ⟨g198, rfl, rfl⟩ := q197
    refine asg rfl rfl ?_
    refine WL.next ?_
    refine WC.seq ?_
    refine WC.seq ?_
    obtain ⟨j221, hj221, h⟩ := bnd h
    refine WC.joinQ (σ := Bool) (fun x220 => [(11, (.pointer (some ⟨g182, 0, none⟩))), (14, (.pointer (some ⟨g198, 0, none⟩))), (64, (.slice a51 x69.length c52)), (65, (.int .i64 (x69.length : Int))), (66, (.int .i64 x71)), (91, (.bool x220))]) (fun x220 => Ob_span_Reader g198 s193 :: bl g182 #[(.int .i64 z174.p_.Kind), (.int .i64 z174.p_.Path), (.int .i64 z174.p_.Number), (.int .i64 z174.p_.Of), (.int .i64 z174.p_.From), (.slice a176 z174.p_.Data.length c177), (.bool z174.p_.Fin), (.int .i64 z174.p_.Seen), (.int .i64 z174.p_.Limit), (.slice a179 z174.b_.length c180)] 64 :: OV 64 (.slice a51 x69.length c52) x69 :: G) (fun x220 J => x220 = j221) (fun kj221 => ?_) ?_
    · skip
      have lj221 := Mem.le.refl J195
      refine WC.region ?_
      refine mv rfl rfl ?_
      refine ne rfl rfl rfl ?_
      refine mv rfl rfl ?_
      rcases spl hj221 with ⟨k222, hj221⟩ | ⟨k222, hj221⟩
      · skip
        refine WL.rb 81 rfl (bT k222) ?_
        refine WL.no rfl rfl rfl rfl ?_
        refine WL.no rfl rfl rfl rfl ?_
        refine WL.no rfl rfl rfl rfl ?_
        refine WL.no rfl rfl rfl rfl ?_
        refine WL.no rfl rfl rfl rfl ?_
        refine pkT rfl rfl rfl ?_
        refine mv rfl rfl ?_
        refine WL.no rfl rfl rfl rfl ?_
        refine WL.no rfl rfl rfl rfl ?_
        refine pkT rfl rfl rfl ?_
        refine WL.del 1 ?_
        refine WL.nil ?_
        refine WX.front 2 ?_
        refine WX.front 2 ?_
        refine WX.front 2 ?_
        exact (kj221 true _ lj221 (Option.some.inj hj221)).sub ⟨rfl, rfl, rfl, rfl, rfl, rfl, trivial⟩
      refine WL.rb 81 rfl (bF k222) ?_
      refine WL.on rfl rfl ?_
      refine mv rfl rfl ?_
      refine WL.on rfl rfl ?_
      refine fa fl64_1 rfl rfl ?_
      refine WL.on rfl rfl ?_
      refine ld 2 na22 rfl rfl rfl rfl ?_
      refine WL.on rfl rfl ?_
      refine WL.front 1 ?_
      refine WL.freeze (fun J223 hJ224 h225 => ?_)
      have hI := hI.trans hJ224
      have ll0 := ll0.trans hJ224
      have lj221 := lj221.trans hJ224
      replace h181 := h181.up hJ224; replace h178 := h178.up hJ224
      obtain ⟨x226, e227, hj221⟩ := bnd hj221
      refine call cl17 rfl rfl (W17 e227 h225 h181) (fun _ J228 _ hJ229 q230 => ?_)
      have hI := hI.trans hJ229
      have ll0 := ll0.trans hJ229
      have lj221 := lj221.trans hJ229
      replace h225 := h225.up hJ229; replace h181 := h181.up hJ229; replace h178 := h178.up hJ229
      obtain ⟨rfl, rfl⟩ := q230
      refine WL.on rfl rfl ?_
      refine nt rfl rfl ?_
      refine pkF rfl rfl rfl ?_
      refine mv rfl rfl ?_
      rcases spl hj221 with ⟨k231, hj221⟩ | ⟨k231, hj221⟩
      · skip
        refine WL.rb 88 rfl (bt1n k231) ?_
        refine WL.on rfl rfl ?_
        refine mv rfl rfl ?_
        refine WL.on rfl rfl ?_
        refine pe pt66 rfl rfl rfl ?_
        refine pkF rfl rfl rfl ?_
        refine WL.nil ?_
        refine WX.front 2 ?_
        refine WX.front 2 ?_
        refine WX.front 2 ?_
        exact (kj221 false _ lj221 (Option.some.inj hj221)).sub ⟨rfl, rfl, rfl, rfl, rfl, rfl, trivial⟩
      refine WL.rb 88 rfl (bf1n k231) ?_
      refine WL.no rfl rfl rfl rfl ?_
      refine WL.no rfl rfl rfl rfl ?_
      refine pkT rfl rfl rfl ?_
      refine WL.nil ?_
      refine WX.front 2 ?_
      refine WX.front 2 ?_
      refine WX.front 2 ?_
      exact (kj221 true _ lj221 (Option.some.inj hj221)).sub ⟨rfl, rfl, rfl, rfl, rfl, rfl, trivial⟩
    rintro x220 J232 hJ233 rfl
    have hI := hI.trans hJ233
    have ll0 := ll0.trans hJ233
    replace h178 := h178.up hJ233; replace h181 := h181.up hJ233
    refine WX.then_ ?_
    refine WC.iteb rfl h (fun k234 h => ?_) (fun k234 h => ?_)
    · skip
      refine WC.seq ?_
      refine WC.region ?_
      refine asg rfl rfl ?_
      refine WL.del 0 ?_
      refine WL.del 0 ?_
      refine WL.del 0 ?_
      refine WL.next ?_
      refine WC.ret ?_
      refine WX.then_ret ?_
      refine WX.block_ret ?_
      refine WX.then_ret ?_
      refine WX.then_ret ?_
      refine WX.block_ret ?_
      refine WX.then_ret ?_
      cases h
      exact ret1 Try.results11 rfl hI ⟨rfl, rfl⟩
    refine WC.skip ?_
    refine WX.then_ ?_
    refine WC.seq ?_
    refine WC.region ?_
    refine mv rfl rfl ?_
    obtain ⟨⟨x235, x236, s237⟩, e238, h⟩ := bnd h
    refine call cl47 rfl rfl (W47 e238) (fun _ J239 _ hJ240 q241 => ?_)
    have hI := hI.trans hJ240
    have ll0 := ll0.trans hJ240
    replace h178 := h178.up hJ240; replace h181 := h181.up hJ240
    obtain ⟨a242, c243, rfl, h244, rfl⟩ := q241
    refine mv rfl rfl ?_
    refine ex rfl rfl rfl ?_
    refine ex rfl rfl rfl ?_
    refine al Try.zeroValue41 rfl (fun g245 => ?_)
    refine sta (C' := #[(.int .i64 x235.Kind), (.int .i64 x235.Path), (.int .i64 x235.Number), (.int .i64 x235.Of), (.int .i64 x235.From), (.slice a242 x235.Data.length c243), (.bool x235.Fin), (.int .i64 x235.Seen), (.int .i64 x235.Limit)]) sz41 rfl rfl rfl rfl rfl rfl ?_
    refine asg rfl rfl ?_
    refine WL.next ?_
    refine WC.seq ?_
    refine WC.region ?_
    refine mv rfl rfl ?_
    refine nt rfl rfl ?_
    refine mv rfl rfl ?_
    rcases spl h with ⟨k247, h⟩ | ⟨k247, h⟩
    · skip
      refine WL.rb 99 rfl (bt1n k247) ?_
      refine WL.on rfl rfl ?_
      refine lda 0 ya41 rfl rfl rfl rfl rfl ?_
      refine WL.on rfl rfl ?_
      refine fa fl64_0 rfl rfl ?_
      refine WL.on rfl rfl ?_
      refine lda 2 ya41 rfl rfl rfl rfl rfl ?_
      refine WL.on rfl rfl ?_
      obtain ⟨x248, e249, h⟩ := bnd h
      refine call cl37 rfl rfl (W37 e249 h244 h178) (fun _ J250 _ hJ251 q252 => ?_)
      have hI := hI.trans hJ251
      have ll0 := ll0.trans hJ251
      replace h244 := h244.up hJ251; replace h178 := h178.up hJ251; replace h181 := h181.up hJ251
      obtain ⟨rfl, rfl⟩ := q252
      refine WL.on rfl rfl ?_
      refine nt rfl rfl ?_
      refine pkF rfl rfl rfl ?_
      refine mv rfl rfl ?_
      rcases spl h with ⟨k253, h⟩ | ⟨k253, h⟩
      · skip
        refine WL.rb 106 rfl (bt1n k253) ?_
        refine WL.on rfl rfl ?_
        refine mv rfl rfl ?_
        refine WL.on rfl rfl ?_
        refine WL.front 1 ?_
        obtain ⟨⟨x254, s255⟩, e256, h⟩ := bnd h
        refine call cl48 rfl rfl (W48 e256) (fun _ J257 _ hJ258 q259 => ?_)
        have hI := hI.trans hJ258
        have ll0 := ll0.trans hJ258
        replace h244 := h244.up hJ258; replace h178 := h178.up hJ258; replace h181 := h181.up hJ258
        obtain ⟨rfl, rfl⟩ := q259
        refine WL.on rfl rfl ?_
        refine ne rfl rfl rfl ?_
        refine pkF rfl rfl rfl ?_
        refine WL.del 1 ?_
        refine WL.next ?_
        refine WC.ite rfl h (fun k260 h => ?_) (fun k260 h => ?_)
        · skip
          refine WC.seq ?_
          refine WC.region ?_
          refine asg rfl rfl ?_
          refine WL.del 0 ?_
          refine WL.del 0 ?_
          refine WL.del 0 ?_
          refine WL.next ?_
          refine WC.ret ?_
          refine WX.block_ret ?_
          refine WX.then_ret ?_
          refine WX.then_ret ?_
          refine WX.block_ret ?_
          refine WX.then_ret ?_
          cases h
          exact ret1 Try.results11 rfl hI ⟨rfl, rfl⟩
        refine WC.skip ?_
        refine WX.block_normal ?_
        refine WX.then_ ?_
        refine WC.region ?_
        refine ad rfl rfl rfl ?_
        refine mv rfl rfl ?_
        refine WL.nil ?_
        refine WX.front 2 ?_
        refine WX.del 1 ?_
        refine WX.del 1 ?_
        refine WX.round ?_
        exact (ih0 (w64 (x71 + 1)) _ ll0 trivial h).sub ⟨rfl, rfl, rfl, trivial⟩
      refine WL.rb 106 rfl (bf1n k253) ?_
      refine WL.no rfl rfl rfl rfl ?_
      refine WL.no rfl rfl rfl rfl ?_
      refine WL.no rfl rfl rfl rfl ?_
      refine pkT rfl rfl rfl ?_
      refine WL.del 0 ?_
      refine WL.del 0 ?_
      refine WL.next ?_
      refine WC.cond rfl (fun _ => ?_) (fun k => by cases k)
      refine WC.seq ?_
      refine WC.region ?_
      refine asg rfl rfl ?_
      refine WL.del 0 ?_
      refine WL.del 0 ?_
      refine WL.next ?_
      refine WC.ret ?_
      refine WX.block_ret ?_
      refine WX.then_ret ?_
      refine WX.then_ret ?_
      refine WX.block_ret ?_
      refine WX.then_ret ?_
      cases h
      exact ret1 Try.results11 rfl hI ⟨rfl, rfl⟩
    refine WL.rb 99 rfl (bf1n k247) ?_
    refine WL.no rfl rfl rfl rfl ?_
    refine WL.no rfl rfl rfl rfl ?_
    refine WL.no rfl rfl rfl rfl ?_
    refine WL.no rfl rfl rfl rfl ?_
    refine WL.no rfl rfl rfl rfl ?_
    refine pkT rfl rfl rfl ?_
    refine mv rfl rfl ?_
    refine WL.no rfl rfl rfl rfl ?_
    refine WL.no rfl rfl rfl rfl ?_
    refine WL.no rfl rfl rfl rfl ?_
    refine pkT rfl rfl rfl ?_
    refine WL.del 0 ?_
    refine WL.del 0 ?_
    refine WL.del 0 ?_
    refine WL.next ?_
    refine WC.cond rfl (fun _ => ?_) (fun k => by cases k)
    refine WC.seq ?_
    refine WC.region ?_
    refine asg rfl rfl ?_
    refine WL.del 0 ?_
    refine WL.next ?_
    refine WC.ret ?_
    refine WX.block_ret ?_
    refine WX.then_ret ?_
    refine WX.then_ret ?_
    refine WX.block_ret ?_
    refine WX.then_ret ?_
    cases h
    exact ret1 Try.results11 rfl hI ⟨rfl, rfl⟩
  refine WC.exit ?_
  refine WX.then_exit ?_
  refine WX.then_exit ?_
  refine WX.block_here ?_
  refine WX.then_ ?_
  refine WC.seq ?_
  refine WC.region ?_
  obtain ⟨x261, e262, h⟩ := bnd h
  refine call cl33 rfl rfl (W33 e262) (fun _ J263 _ hJ264 q265 => ?_)
  have hI := hI.trans hJ264
  have ll0 := ll0.trans hJ264
  obtain ⟨rfl, rfl⟩ := q265
  refine asg rfl rfl ?_
  refine WL.del 0 ?_
  refine WL.next ?_
  refine WC.ret ?_
  cases h
  exact ret1 Try.results11 rfl hI ⟨rfl, rfl⟩
theorem W12 {I : Mem} {G : List Asn} {p0 : List api_Packet} {p1 : Int} {r : Bool} (h : haulierlaw06_PacketRows p0 p1 = some r) {u0 : Value} (hp0 : IV I u0 p0) :
    CallsS Try.prog 12 #[u0, .int .i64 p1] I (G) (fun v J G' => v = .bool r ∧ G = G') := by
  refine CallsS.enter Try.func12 rfl Try.ntmps12 rfl (fun w0 => ?_)
  have hI := Mem.le.refl I
  obtain ⟨a0, c0, rfl⟩ := hp0.hd
  unfold haulierlaw06_PacketRows at h
  refine WC.seq ?_
  refine WC.region ?_
  refine asg rfl rfl ?_
  refine WL.next ?_
  refine WC.seq ?_
  refine WC.region ?_
  refine asg rfl rfl ?_
  refine WL.next ?_
  refine WC.seq ?_
  refine WC.region ?_
  refine asg rfl rfl ?_
  refine WL.next ?_
  refine WC.seq ?_
  refine WC.seq ?_
  refine WC.region ?_
  refine asg rfl rfl ?_
  refine WL.next ?_
  obtain ⟨j141, hj141, h⟩ := bnd h
  refine WC.joinQ (σ := (List UInt8) × (List api_Packet) × (Option Addr) × Nat × (Option Addr) × Nat) (fun (x131, x136, a132, c133, a137, c138) => [(1, (.int .i64 p1)), (5, (.slice a132 x131.length c133)), (6, (.slice a137 x136.length c138))]) (fun (x131, x136, a132, c133, a137, c138) => OV 5 (.slice a132 x131.length c133) x131 :: OV 41 (.slice a137 x136.length c138) x136 :: G) (fun (x131, x136, a132, c133, a137, c138) J => Sum.inr (x131, x136) = j141) (fun kj141 => ?_) ?_
  · skip
    have lj141 := Mem.le.refl I
    refine WC.block ?_
    refine WC.own_nil UInt8 5 ?_
    refine WC.own_nil api_Packet 41 ?_
    refine WC.front 1 ?_
    refine WC.front 1 ?_
    refine WC.loop (σ := (List api_Packet) × (List UInt8) × Int × (Option Addr) × Nat × (Option Addr) × Nat) (fun k (x144, x147, x150, a145, c146, a148, c149) => haulierlaw06_PacketRows_l0 p0 k x144 x147 x150) _ (fun (x144, x147, x150, a145, c146, a148, c149) => [(0, (.slice a0 p0.length c0)), (1, (.int .i64 p1)), (5, (.slice a148 x147.length c149)), (6, (.slice a145 x144.length c146)), (7, (.int .i64 x150))]) (fun (x144, x147, x150, a145, c146, a148, c149) => OV 41 (.slice a145 x144.length c146) x144 :: OV 5 (.slice a148 x147.length c149) x147 :: G) (fun (x144, x147, x150, a145, c146, a148, c149) J => True) (fun ⟨x144, x147, x150, a145, c146, a148, c149⟩ => rfl) bigN ⟨([] : List api_Packet), ([] : List UInt8), 0, _, _, _, _⟩ hj141 trivial ⟨rfl, rfl, rfl, rfl, rfl, trivial⟩ rfl ?_
    rintro k0 ih0 ⟨x144, x147, x150, a145, c146, a148, c149⟩ J211 hJ212 - hj141
    change haulierlaw06_PacketRows_l0 p0 (k0 + 1) x144 x147 x150 = _ at hj141
    rw [haulierlaw06_PacketRows_l0] at hj141
    have hI := hI.trans hJ212
    have lj141 := lj141.trans hJ212
    replace hp0 := hp0.up hJ212
    have ll0 := hJ212
    refine WC.seq ?_
    refine WC.seq ?_
    obtain ⟨j216, hj216, hj141⟩ := bnd hj141
    refine WC.joinQ (σ := Bool) (fun x215 => [(0, (.slice a0 p0.length c0)), (1, (.int .i64 p1)), (5, (.slice a148 x147.length c149)), (6, (.slice a145 x144.length c146)), (7, (.int .i64 x150)), (27, (.bool x215))]) (fun x215 => OV 41 (.slice a145 x144.length c146) x144 :: OV 5 (.slice a148 x147.length c149) x147 :: G) (fun x215 J => x215 = j216) (fun kj216 => ?_) ?_
    · skip
      have lj216 := Mem.le.refl J211
      refine WC.region ?_
      refine mv rfl rfl ?_
      refine mv rfl rfl ?_
      refine ln et42 rfl (hp0.rd) rfl ?_
      refine lt rfl rfl rfl ?_
      refine mv rfl rfl ?_
      rcases spl hj216 with ⟨k217, hj216⟩ | ⟨k217, hj216⟩
      · skip
        refine WL.rb 24 rfl (bT k217) ?_
        refine WL.on rfl rfl ?_
        refine mv rfl rfl ?_
        refine WL.on rfl rfl ?_
        refine lt rfl rfl rfl ?_
        refine pkT rfl rfl rfl ?_
        refine WL.nil ?_
        refine WX.front 1 ?_
        refine WX.front 1 ?_
        exact (kj216 (decide (x150 < 6)) _ lj216 (Option.some.inj hj216)).sub ⟨rfl, rfl, rfl, rfl, rfl, rfl, trivial⟩
      refine WL.rb 24 rfl (bF k217) ?_
      refine WL.no rfl rfl rfl rfl ?_
      refine WL.no rfl rfl rfl rfl ?_
      refine pkF rfl rfl rfl ?_
      refine WL.nil ?_
      refine WX.front 1 ?_
      refine WX.front 1 ?_
      exact (kj216 false _ lj216 (Option.some.inj hj216)).sub ⟨rfl, rfl, rfl, rfl, rfl, rfl, trivial⟩
    rintro x215 J218 hJ219 rfl
    have hI := hI.trans hJ219
    have lj141 := lj141.trans hJ219
    have ll0 := ll0.trans hJ219
    replace hp0 := hp0.up hJ219
    refine WX.then_ ?_
    refine WC.iteb rfl hj141 (fun k220 hj141 => ?_) (fun k220 hj141 => ?_)
    · skip
      refine WC.skip ?_
      refine WX.then_ ?_
      refine WC.seq ?_
      refine WC.block ?_
      refine WC.seq ?_
      refine WC.region ?_
      refine mv rfl rfl ?_
      refine mv rfl rfl ?_
      obtain ⟨z221, e222, hj141⟩ := bnd hj141
      refine ixi et42 rfl rfl hp0 e222 rfl (fun uv223 h224 => ?_)
      refine ldi (α := api_Packet) ya41 rfl h224 rfl (fun uv225 h226 => ?_)
      obtain ⟨a227, c228, rfl, h229⟩ := Rv.of_api_Packet h226
      obtain ⟨x230, e231, hj141⟩ := bnd hj141
      refine call cl34 rfl rfl (W34 e231 h229) (fun _ J232 _ hJ233 q234 => ?_)
      have hI := hI.trans hJ233
      have lj141 := lj141.trans hJ233
      have ll0 := ll0.trans hJ233
      replace hp0 := hp0.up hJ233; replace h224 := h224.up hJ233; replace h229 := h229.up hJ233
      obtain ⟨a235, c236, rfl, h237, rfl⟩ := q234
      refine al Try.zeroValue41 rfl (fun g238 => ?_)
      refine sta (C' := #[(.int .i64 x230.Kind), (.int .i64 x230.Path), (.int .i64 x230.Number), (.int .i64 x230.Of), (.int .i64 x230.From), (.slice a235 x230.Data.length c236), (.bool x230.Fin), (.int .i64 x230.Seen), (.int .i64 x230.Limit)]) sz41 rfl rfl rfl rfl rfl rfl ?_
      refine WL.next ?_
      refine WC.seq ?_
      refine WC.region ?_
      refine lda 0 ya41 rfl rfl rfl rfl rfl ?_
      obtain ⟨⟨x240, x241⟩, e242, hj141⟩ := bnd hj141
      refine call cl31 rfl rfl (W31 e242 h237) (fun _ J243 _ hJ244 q245 => ?_)
      have hI := hI.trans hJ244
      have lj141 := lj141.trans hJ244
      have ll0 := ll0.trans hJ244
      replace hp0 := hp0.up hJ244; replace h237 := h237.up hJ244
      obtain ⟨a246, c247, rfl, rfl⟩ := q245
      refine mv rfl rfl ?_
      refine ex rfl rfl rfl ?_
      refine ex rfl rfl rfl ?_
      refine asg rfl rfl ?_
      refine asg rfl rfl ?_
      refine WL.next ?_
      refine WC.seq ?_
      refine WC.seq ?_
      refine WC.region ?_
      refine mv rfl rfl ?_
      refine ne rfl rfl rfl ?_
      refine WL.next ?_
      refine WC.ite rfl hj141 (fun k249 hj141 => ?_) (fun k249 hj141 => ?_)
      · skip
        refine WC.seq ?_
        refine WC.region ?_
        refine asg rfl rfl ?_
        refine WL.del 0 ?_
        refine WL.del 0 ?_
        refine WL.del 0 ?_
        refine WL.del 0 ?_
        refine WL.next ?_
        refine WC.ret ?_
        refine WX.then_ret ?_
        refine WX.block_ret ?_
        refine WX.then_ret ?_
        refine WX.then_ret ?_
        refine WX.block_ret ?_
        refine WX.then_ret ?_
        cases hj141
        replace h : some _ = some _ := h
        cases h
        exact ret1 Try.results12 rfl hI ⟨rfl, rfl⟩
      refine WC.skip ?_
      refine WX.then_ ?_
      refine WC.sub (r := [(0, (.slice a0 p0.length c0)), (1, (.int .i64 p1)), (5, (.slice a148 x147.length c149)), (6, (.slice a145 x144.length c146)), (7, (.int .i64 x150)), (8, (.pointer (some ⟨g238, 0, none⟩))), (9, (.slice a246 x240.length c247))]) ?_ ⟨rfl, rfl, rfl, rfl, rfl, rfl, rfl, trivial⟩
      obtain ⟨k250, hj141⟩ := chk hj141
      obtain ⟨x256, e257, hj141⟩ := bnd hj141
      obtain ⟨k261, hj141⟩ := chk hj141
      refine WC.front 2 ?_
      refine WC.front 2 ?_
      refine WC.front 2 ?_
      refine WC.front 3 ?_
      refine WC.drawn mo (nthL [[], [], [0, 1], [], [], [4], [0, 1, 2, 3, 4, 5], [0, 1, 2, 3, 4, 5, 6], [0, 1, 2, 3, 4, 5, 6, 7]]) (nthL [[], [], [0, 1], [], [], [4], [3, 5], [2], [6]]) (nthK [.val (.slice a148 x147.length c149), .val (.slice a246 x240.length c247), .any, .val (.slice a145 x144.length c146), .val (.agg #[(.int .i64 x230.Kind), (.int .i64 x230.Path), (.int .i64 x230.Number), (.int .i64 x230.Of), (.int .i64 x230.From), (.slice a235 x230.Data.length c236), (.bool x230.Fin), (.int .i64 x230.Seen), (.int .i64 x230.Limit)]), .any, .any, .any, .any]) [⟨none, (some 2), [], [], fun _ => OV 5 (.slice a148 x147.length c149) x147⟩, ⟨none, none, [2], [], fun _ => OV 5 (.slice a246 x240.length c247) x240⟩, ⟨(some 2), (some 7), [], [2], fun l => OV 5 (vget l 0) (x147 ++ x240)⟩, ⟨none, none, [4], [], fun _ => bl g238 #[(.int .i64 x230.Kind), (.int .i64 x230.Path), (.int .i64 x230.Number), (.int .i64 x230.Of), (.int .i64 x230.From), (.slice a235 x230.Data.length c236), (.bool x230.Fin), (.int .i64 x230.Seen), (.int .i64 x230.Limit)] 41⟩, ⟨(some 5), none, [6], [5], fun l => OV 41 (vget l 0) x256⟩, ⟨none, (some 6), [], [], fun _ => OV 41 (.slice a145 x144.length c146) x144⟩, ⟨(some 6), (some 8), [], [6], fun l => OV 41 (vget l 0) (x144 ++ x256)⟩, ⟨(some 7), none, [], [7], fun l => OV 5 (vget l 0) (x147 ++ x240)⟩, ⟨(some 8), none, [], [8], fun l => OV 41 (vget l 0) (x144 ++ x256)⟩] (by kernel_rfl) (by kernel_rfl) (by kernel_rfl) (H := G) rfl ⟨?_, ?_, ?_, ?_, ?_, ?_, ?_, ?_, ?_, trivial⟩ ?_
      · intro Q ρ I1 H hI1 hk hpost
        have hc := Mem.le.refl I1
        refine mv rfl rfl ?_
        refine WL.nil ?_
        exact hpost _ _ hc rfl _ (fun _ hd => by obtain rfl := Option.some.inj hd; exact ⟨rfl, trivial⟩)
      · intro Q ρ I1 H hI1 hk hpost
        have hc := Mem.le.refl I1
        refine mv rfl rfl ?_
        refine WL.nil ?_
        exact hpost _ _ hc rfl _ (fun _ hd => by obtain rfl := Option.some.inj hd; exact ⟨rfl, trivial⟩)
      · intro Q ρ I1 H hI1 hk hpost
        obtain ⟨_, _, -⟩ := hk
        have hc := Mem.le.refl I1
        refine ap et22 rfl rfl ((OV.rd 1 rfl)) k250 rfl (fun a251 c252 => ?_)
        refine WL.front 1 ?_
        refine WL.front 1 ?_
        refine WL.nil ?_
        exact hpost _ _ hc trivial _ (fun _ hd => by obtain rfl := Option.some.inj hd; exact ⟨rfl, trivial⟩)
      · intro Q ρ I1 H hI1 hk hpost
        have hc := Mem.le.refl I1
        refine mv rfl rfl ?_
        refine WL.nil ?_
        exact hpost _ _ hc rfl _ (fun _ hd => by obtain rfl := Option.some.inj hd; exact ⟨rfl, trivial⟩)
      · intro Q ρ I1 H hI1 hk hpost
        have hc := Mem.le.refl I1
        refine lda 0 ya41 rfl rfl rfl rfl rfl ?_
        refine WL.nil ?_
        exact hpost _ _ hc rfl _ (fun _ hd => by obtain rfl := Option.some.inj hd; exact ⟨rfl, trivial⟩)
      · intro Q ρ I1 H hI1 hk hpost
        obtain ⟨_, -⟩ := hk
        replace h237 := h237.up hI1
        have hc := Mem.le.refl I1
        refine bs (os := [.tmp 46]) (xs := ([(⟨x230.Kind, x230.Path, x230.Number, x230.Of, x230.From, x230.Data, x230.Fin, x230.Seen, x230.Limit⟩ : api_Packet)] : List api_Packet)) et42 rfl rfl ⟨(Rv.mk_api_Packet (⟨x230.Kind, x230.Path, x230.Number, x230.Of, x230.From, x230.Data, x230.Fin, x230.Seen, x230.Limit⟩ : api_Packet) h237), trivial⟩ rfl rfl rfl rfl (fun a253 c254 => ?_)
        refine WL.ren (Option.some.inj e257) ?_
        refine WL.nil ?_
        exact hpost _ _ hc trivial _ (fun _ hd => by obtain rfl := Option.some.inj hd; exact ⟨rfl, trivial⟩)
      · intro Q ρ I1 H hI1 hk hpost
        obtain ⟨_, _, -⟩ := hk
        have hc := Mem.le.refl I1
        refine ap et42 rfl rfl ((OV.rd 1 rfl)) k261 rfl (fun a262 c263 => ?_)
        refine WL.front 1 ?_
        refine WL.front 1 ?_
        refine WL.nil ?_
        exact hpost _ _ hc trivial _ (fun _ hd => by obtain rfl := Option.some.inj hd; exact ⟨rfl, trivial⟩)
      · intro Q ρ I1 H hI1 hk hpost
        obtain ⟨_, -⟩ := hk
        have hc := Mem.le.refl I1
        refine asg rfl rfl ?_
        refine WL.nil ?_
        exact hpost _ _ hc trivial _ (fun _ hd => by obtain rfl := Option.some.inj hd; exact ⟨rfl, trivial⟩)
      · intro Q ρ I1 H hI1 hk hpost
        obtain ⟨_, -⟩ := hk
        have hc := Mem.le.refl I1
        refine asg rfl rfl ?_
        refine WL.nil ?_
        exact hpost _ _ hc trivial _ (fun _ hd => by obtain rfl := Option.some.inj hd; exact ⟨rfl, trivial⟩)
      rintro ρ J264 hJ265 -
      refine WX.sub (r := [(0, (.slice a0 p0.length c0)), (1, (.int .i64 p1)), (5, (ρ 7)), (6, (ρ 8)), (7, (.int .i64 x150))]) ?_ ⟨rfl, rfl, rfl, rfl, rfl, trivial⟩
      refine WX.is (H := OV 5 (.slice a246 x240.length c247) x240 :: bl g238 #[(.int .i64 x230.Kind), (.int .i64 x230.Path), (.int .i64 x230.Number), (.int .i64 x230.Of), (.int .i64 x230.From), (.slice a235 x230.Data.length c236), (.bool x230.Fin), (.int .i64 x230.Seen), (.int .i64 x230.Limit)] 41 :: OV 41 (ρ 5) x256 :: OV 5 (ρ 7) (x147 ++ x240) :: OV 41 (ρ 8) (x144 ++ x256) :: G) rfl ?_
      have hI := hI.trans hJ265
      have lj141 := lj141.trans hJ265
      have ll0 := ll0.trans hJ265
      replace hp0 := hp0.up hJ265; replace h237 := h237.up hJ265
      refine WX.front 3 ?_
      generalize ρ 7 = uv266 at *; refine WX.hd (fun a267 c268 e => ?_); subst e
      refine WX.front 4 ?_
      generalize ρ 8 = uv269 at *; refine WX.hd (fun a270 c271 e => ?_); subst e
      refine WX.block_normal ?_
      refine WX.then_ ?_
      refine WC.region ?_
      refine mv rfl rfl ?_
      refine ad rfl rfl rfl ?_
      refine asg rfl rfl ?_
      refine WL.del 2 ?_
      refine WL.del 2 ?_
      refine WL.del 2 ?_
      refine WL.nil ?_
      refine WX.front 1 ?_
      refine WX.front 1 ?_
      refine WX.round ?_
      exact (ih0 ⟨(x144 ++ x256), (x147 ++ x240), w64 (x150 + 1), _, _, _, _⟩ _ ll0 trivial hj141).sub ⟨rfl, rfl, rfl, rfl, rfl, trivial⟩
    refine WC.exit ?_
    refine WX.then_exit ?_
    refine WX.then_exit ?_
    refine WX.block_here ?_
    refine WX.front 1 ?_
    exact (kj141 ⟨x147, x144, _, _, _, _⟩ _ lj141 (Option.some.inj hj141)).sub ⟨rfl, rfl, rfl, trivial⟩
  rintro ⟨x131, x136, a132, c133, a137, c138⟩ J272 hJ273 rfl
  have hI := hI.trans hJ273
  refine WX.then_ ?_
  refine WC.seq ?_
  refine WC.region ?_
  refine mv rfl rfl ?_
  refine WL.freeze (fun J274 hJ275 h276 => ?_)
  have hI := hI.trans hJ275
  obtain ⟨s277, e278, h⟩ := bnd h
  refine call cl46 rfl rfl (W46 e278 h276) (fun _ J279 _ hJ280 q281 => ?_)
  have hI := hI.trans hJ280
  replace h276 := h276.up hJ280
  obtain ⟨g282, rfl, rfl⟩ := q281
  refine asg rfl rfl ?_
  refine WL.next ?_
  refine WC.seq ?_
  refine WC.seq ?_
  refine WC.region ?_
  refine mv rfl rfl ?_
  refine pe pt66 rfl rfl rfl ?_
  refine WL.next ?_
  refine WC.cond rfl (fun k => by cases k) (fun _ => ?_)
  refine WC.skip ?_
  refine WX.then_ ?_
  refine WC.seq ?_
  refine WC.seq ?_
  refine WC.region ?_
  refine mv rfl rfl ?_
  refine ln et42 rfl (OV.rd 1 rfl) rfl ?_
  refine mv rfl rfl ?_
  refine WL.next ?_
  obtain ⟨j388, hj388, h⟩ := bnd h
  refine WC.joinQ (σ := span_Reader) (fun s387 => [(1, (.int .i64 p1)), (5, (.slice a132 x131.length c133)), (6, (.slice a137 x136.length c138)), (11, (.pointer (some ⟨g282, 0, none⟩)))]) (fun s387 => Ob_span_Reader g282 s387 :: OV 41 (.slice a137 x136.length c138) x136 :: G) (fun s387 J => Sum.inr s387 = j388) (fun kj388 => ?_) ?_
  · skip
    have lj388 := Mem.le.refl J279
    refine WC.block ?_
    refine WC.front 1 ?_
    refine WC.front 1 ?_
    refine WC.loop (σ := span_Reader × Int) (fun k (s423, x424) => haulierlaw06_PacketRows_l1 x136 k s423 x424) _ (fun (s423, x424) => [(1, (.int .i64 p1)), (5, (.slice a132 x131.length c133)), (6, (.slice a137 x136.length c138)), (11, (.pointer (some ⟨g282, 0, none⟩))), (53, (.slice a137 x136.length c138)), (54, (.int .i64 (x136.length : Int))), (55, (.int .i64 x424))]) (fun (s423, x424) => Ob_span_Reader g282 s423 :: OV 41 (.slice a137 x136.length c138) x136 :: G) (fun (s423, x424) J => True) (fun ⟨s423, x424⟩ => rfl) bigN ⟨s277, 0⟩ hj388 trivial ⟨rfl, rfl, rfl, rfl, rfl, rfl, rfl, trivial⟩ rfl ?_
    rintro k1 ih1 ⟨s423, x424⟩ J458 hJ459 - hj388
    change haulierlaw06_PacketRows_l1 x136 (k1 + 1) s423 x424 = _ at hj388
    rw [haulierlaw06_PacketRows_l1] at hj388
    have hI := hI.trans hJ459
    have lj388 := lj388.trans hJ459
    replace h276 := h276.up hJ459
    have ll1 := hJ459
    refine WC.seq ?_
    refine WC.region ?_
    refine lt rfl rfl rfl ?_
    refine WL.next ?_
    refine WC.seq ?_
    refine WC.ite rfl hj388 (fun k460 hj388 => ?_) (fun k460 hj388 => ?_)
    · skip
      refine WC.skip ?_
      refine WX.then_ ?_
      refine WC.seq ?_
      refine WC.block ?_
      refine WC.seq ?_
      refine WC.region ?_
      obtain ⟨k461, hj388⟩ := chk hj388
      refine ixo 1 et42 rfl rfl rfl k461 rfl (fun uv462 h463 => ?_)
      obtain ⟨z466, e467, hj388⟩ := bnd hj388
      refine ldo (α := api_Packet) 1 ya41 rfl h463 rfl e467 rfl (fun uv464 h465 => ?_)
      obtain ⟨a468, c469, rfl, h470⟩ := Rv.of_api_Packet h465
      refine al Try.zeroValue41 rfl (fun g471 => ?_)
      refine sta (C' := #[(.int .i64 z466.Kind), (.int .i64 z466.Path), (.int .i64 z466.Number), (.int .i64 z466.Of), (.int .i64 z466.From), (.slice a468 z466.Data.length c469), (.bool z466.Fin), (.int .i64 z466.Seen), (.int .i64 z466.Limit)]) sz41 rfl rfl rfl rfl rfl rfl ?_
      refine WL.next ?_
      refine WC.seq ?_
      refine WC.region ?_
      refine mv rfl rfl ?_
      refine WL.front 1 ?_
      obtain ⟨⟨x473, x474, s475⟩, e476, hj388⟩ := bnd hj388
      refine call cl47 rfl rfl (W47 e476) (fun _ J477 _ hJ478 q479 => ?_)
      have hI := hI.trans hJ478
      have lj388 := lj388.trans hJ478
      have ll1 := ll1.trans hJ478
      replace h276 := h276.up hJ478; replace h470 := h470.up hJ478
      obtain ⟨a480, c481, rfl, h482, rfl⟩ := q479
      refine mv rfl rfl ?_
      refine ex rfl rfl rfl ?_
      refine ex rfl rfl rfl ?_
      refine al Try.zeroValue41 rfl (fun g483 => ?_)
      refine sta (C' := #[(.int .i64 x473.Kind), (.int .i64 x473.Path), (.int .i64 x473.Number), (.int .i64 x473.Of), (.int .i64 x473.From), (.slice a480 x473.Data.length c481), (.bool x473.Fin), (.int .i64 x473.Seen), (.int .i64 x473.Limit)]) sz41 rfl rfl rfl rfl rfl rfl ?_
      refine asg rfl rfl ?_
      refine WL.next ?_
      refine WC.seq ?_
      refine WC.region ?_
      refine mv rfl rfl ?_
      refine nt rfl rfl ?_
      refine mv rfl rfl ?_
      rcases spl hj388 with ⟨k485, hj388⟩ | ⟨k485, hj388⟩
      · skip
        refine WL.rb 66 rfl (bt1n k485) ?_
        refine WL.on rfl rfl ?_
        refine lda 2 ya41 rfl rfl rfl rfl rfl ?_
        refine WL.on rfl rfl ?_
        refine lda 0 ya41 rfl rfl rfl rfl rfl ?_
        refine WL.on rfl rfl ?_
        obtain ⟨x486, e487, hj388⟩ := bnd hj388
        refine call cl37 rfl rfl (W37 e487 h470 h482) (fun _ J488 _ hJ489 q490 => ?_)
        have hI := hI.trans hJ489
        have lj388 := lj388.trans hJ489
        have ll1 := ll1.trans hJ489
        replace h276 := h276.up hJ489; replace h470 := h470.up hJ489; replace h482 := h482.up hJ489
        obtain ⟨rfl, rfl⟩ := q490
        refine WL.on rfl rfl ?_
        refine nt rfl rfl ?_
        refine pkF rfl rfl rfl ?_
        refine WL.del 0 ?_
        refine WL.del 1 ?_
        refine WL.next ?_
        refine WC.itebn rfl hj388 (fun k491 hj388 => ?_) (fun k491 hj388 => ?_)
        · skip
          refine WC.skip ?_
          refine WX.block_normal ?_
          refine WX.then_ ?_
          refine WC.region ?_
          refine ad rfl rfl rfl ?_
          refine mv rfl rfl ?_
          refine WL.nil ?_
          refine WX.front 1 ?_
          refine WX.front 1 ?_
          refine WX.round ?_
          exact (ih1 ⟨s475, w64 (x424 + 1)⟩ _ ll1 trivial hj388).sub ⟨rfl, rfl, rfl, rfl, rfl, rfl, rfl, trivial⟩
        refine WC.seq ?_
        refine WC.region ?_
        refine asg rfl rfl ?_
        refine WL.del 0 ?_
        refine WL.del 0 ?_
        refine WL.next ?_
        refine WC.ret ?_
        refine WX.block_ret ?_
        refine WX.then_ret ?_
        refine WX.then_ret ?_
        refine WX.block_ret ?_
        refine WX.then_ret ?_
        cases hj388
        replace h : some _ = some _ := h
        cases h
        exact ret1 Try.results12 rfl hI ⟨rfl, rfl⟩
      refine WL.rb 66 rfl (bf1n k485) ?_
      refine WL.no rfl rfl rfl rfl ?_
      refine WL.no rfl rfl rfl rfl ?_
      refine WL.no rfl rfl rfl rfl ?_
      refine WL.no rfl rfl rfl rfl ?_
      refine pkT rfl rfl rfl ?_
      refine WL.del 0 ?_
      refine WL.del 1 ?_
      refine WL.next ?_
      refine WC.cond rfl (fun _ => ?_) (fun k => by cases k)
      refine WC.seq ?_
      refine WC.region ?_
      refine asg rfl rfl ?_
      refine WL.del 0 ?_
      refine WL.del 0 ?_
      refine WL.next ?_
      refine WC.ret ?_
      refine WX.block_ret ?_
      refine WX.then_ret ?_
      refine WX.then_ret ?_
      refine WX.block_ret ?_
      refine WX.then_ret ?_
      cases hj388
      replace h : some _ = some _ := h
      cases h
      exact ret1 Try.results12 rfl hI ⟨rfl, rfl⟩
    refine WC.exit ?_
    refine WX.then_exit ?_
    refine WX.then_exit ?_
    refine WX.block_here ?_
    refine WX.front 1 ?_
    refine WX.front 1 ?_
    exact (kj388 s423 _ lj388 (Option.some.inj hj388)).sub ⟨rfl, rfl, rfl, rfl, trivial⟩
  rintro s387 J492 hJ493 rfl
  have hI := hI.trans hJ493
  replace h276 := h276.up hJ493
  refine WX.then_ ?_
  refine WC.seq ?_
  refine WC.seq ?_
  obtain ⟨j521, hj521, h⟩ := bnd h
  refine WC.joinQ (σ := Bool) (fun x520 => [(1, (.int .i64 p1)), (5, (.slice a132 x131.length c133)), (6, (.slice a137 x136.length c138)), (79, (.bool x520))]) (fun x520 => OV 41 (.slice a137 x136.length c138) x136 :: G) (fun x520 J => x520 = j521) (fun kj521 => ?_) ?_
  · skip
    have lj521 := Mem.le.refl J492
    refine WC.region ?_
    refine mv rfl rfl ?_
    obtain ⟨⟨x522, s523⟩, e524, hj521⟩ := bnd hj521
    refine call cl48 rfl rfl (W48 e524) (fun _ J525 _ hJ526 q527 => ?_)
    have hI := hI.trans hJ526
    have lj521 := lj521.trans hJ526
    replace h276 := h276.up hJ526
    obtain ⟨rfl, rfl⟩ := q527
    refine ne rfl rfl rfl ?_
    refine mv rfl rfl ?_
    rcases spl hj521 with ⟨k528, hj521⟩ | ⟨k528, hj521⟩
    · skip
      refine WL.rb 76 rfl (bT k528) ?_
      refine WL.no rfl rfl rfl rfl ?_
      refine WL.no rfl rfl rfl rfl ?_
      refine pkT rfl rfl rfl ?_
      refine WL.del 0 ?_
      refine WL.nil ?_
      exact (kj521 true _ lj521 (Option.some.inj hj521)).sub ⟨rfl, rfl, rfl, rfl, trivial⟩
    refine WL.rb 76 rfl (bF k528) ?_
    refine WL.on rfl rfl ?_
    refine mv rfl rfl ?_
    refine WL.on rfl rfl ?_
    obtain ⟨⟨x529, s530⟩, e531, hj521⟩ := bnd hj521
    refine call cl49 rfl rfl (W49 e531) (fun _ J532 _ hJ533 q534 => ?_)
    have hI := hI.trans hJ533
    have lj521 := lj521.trans hJ533
    replace h276 := h276.up hJ533
    obtain ⟨rfl, rfl⟩ := q534
    refine pkF rfl rfl rfl ?_
    refine WL.del 0 ?_
    refine WL.nil ?_
    exact (kj521 x529 _ lj521 (Option.some.inj hj521)).sub ⟨rfl, rfl, rfl, rfl, trivial⟩
  rintro x520 J535 hJ536 rfl
  have hI := hI.trans hJ536
  replace h276 := h276.up hJ536
  refine WX.then_ ?_
  refine WC.iteb rfl h (fun k537 h => ?_) (fun k537 h => ?_)
  · skip
    refine WC.seq ?_
    refine WC.region ?_
    refine asg rfl rfl ?_
    refine WL.del 0 ?_
    refine WL.next ?_
    refine WC.ret ?_
    refine WX.then_ret ?_
    cases h
    exact ret1 Try.results12 rfl hI ⟨rfl, rfl⟩
  refine WC.skip ?_
  refine WX.then_ ?_
  refine WC.seq ?_
  refine WC.seq ?_
  refine WC.region ?_
  refine mv rfl rfl ?_
  refine ln et22 rfl (h276.rd) rfl ?_
  refine eq rfl rfl rfl ?_
  refine WL.next ?_
  refine WC.ite rfl h (fun k538 h => ?_) (fun k538 h => ?_)
  · skip
    refine WC.seq ?_
    refine WC.region ?_
    obtain ⟨x539, e540, h⟩ := bnd h
    refine call cl33 rfl rfl (W33 e540) (fun _ J541 _ hJ542 q543 => ?_)
    have hI := hI.trans hJ542
    replace h276 := h276.up hJ542
    obtain ⟨rfl, rfl⟩ := q543
    refine asg rfl rfl ?_
    refine WL.del 0 ?_
    refine WL.next ?_
    refine WC.ret ?_
    refine WX.then_ret ?_
    cases h
    exact ret1 Try.results12 rfl hI ⟨rfl, rfl⟩
  refine WC.skip ?_
  refine WX.then_ ?_
  refine WC.seq ?_
  refine WC.region ?_
  refine mv rfl rfl ?_
  refine mv rfl rfl ?_
  refine mv rfl rfl ?_
  refine ln et22 rfl (h276.rd) rfl ?_
  obtain ⟨x544, e545, h⟩ := bnd h
  refine call cl19 rfl rfl (W19 e545) (fun _ J546 _ hJ547 q548 => ?_)
  have hI := hI.trans hJ547
  replace h276 := h276.up hJ547
  obtain ⟨rfl, rfl⟩ := q548
  obtain ⟨y549, e550, h⟩ := bnd h
  refine cti (kl := .i64) (kh := .i64) et22 rfl h276 (.inl ⟨rfl, rfl, rfl⟩) (.inr ⟨_, rfl, rfl, rfl⟩) e550 rfl (fun a551 c552 h553 => ?_)
  obtain ⟨s554, e555, h⟩ := bnd h
  refine call cl46 rfl rfl (W46 e555 h553) (fun _ J556 _ hJ557 q558 => ?_)
  have hI := hI.trans hJ557
  replace h276 := h276.up hJ557; replace h553 := h553.up hJ557
  obtain ⟨g559, rfl, rfl⟩ := q558
  refine asg rfl rfl ?_
  refine WL.next ?_
  refine WC.seq ?_
  refine WC.seq ?_
  refine WC.region ?_
  refine mv rfl rfl ?_
  refine pe pt66 rfl rfl rfl ?_
  refine WL.next ?_
  refine WC.cond rfl (fun k => by cases k) (fun _ => ?_)
  refine WC.skip ?_
  refine WX.then_ ?_
  refine WC.seq ?_
  refine WC.region ?_
  refine asg rfl rfl ?_
  refine WL.next ?_
  refine WC.seq ?_
  refine WC.block ?_
  refine WC.front 1 ?_
  refine WC.front 1 ?_
  refine WC.loop (σ := span_Reader × Int) (fun k (s577, x578) => haulierlaw06_PacketRows_l2 x136 k s577 x578) _ (fun (s577, x578) => [(6, (.slice a137 x136.length c138)), (16, (.pointer (some ⟨g559, 0, none⟩))), (17, (.int .i64 x578))]) (fun (s577, x578) => Ob_span_Reader g559 s577 :: OV 41 (.slice a137 x136.length c138) x136 :: G) (fun (s577, x578) J => True) (fun ⟨s577, x578⟩ => rfl) bigN ⟨s554, 0⟩ h trivial ⟨rfl, rfl, rfl, trivial⟩ rfl ?_
  rintro k2 ih2 ⟨s577, x578⟩ J594 hJ595 - h
  change haulierlaw06_PacketRows_l2 x136 (k2 + 1) s577 x578 = _ at h
  rw [haulierlaw06_PacketRows_l2] at h
  have hI := hI.trans hJ595
  have ll2 := hJ595
  refine WC.seq ?_
  refine WC.seq ?_
  refine WC.region ?_
  refine mv rfl rfl ?_
  refine mv rfl rfl ?_
  refine ln et42 rfl (OV.rd 1 rfl) rfl ?_
  refine lt rfl rfl rfl ?_
  refine WL.next ?_
  refine WC.ite rfl h (fun k596 h => ?_) (fun k596 h => ?_)
  · skip
    refine WC.skip ?_
    refine WX.then_ ?_
    refine WC.block ?_
    refine WC.seq ?_
    refine WC.seq ?_
    refine WC.region ?_
    refine mv rfl rfl ?_
    obtain ⟨⟨x597, x598, s599⟩, e600, h⟩ := bnd h
    refine call cl47 rfl rfl (W47 e600) (fun _ J601 _ hJ602 q603 => ?_)
    have hI := hI.trans hJ602
    have ll2 := ll2.trans hJ602
    obtain ⟨a604, c605, rfl, h606, rfl⟩ := q603
    refine mv rfl rfl ?_
    refine ex rfl rfl rfl ?_
    refine ex rfl rfl rfl ?_
    refine al Try.zeroValue41 rfl (fun g607 => ?_)
    refine sta (C' := #[(.int .i64 x597.Kind), (.int .i64 x597.Path), (.int .i64 x597.Number), (.int .i64 x597.Of), (.int .i64 x597.From), (.slice a604 x597.Data.length c605), (.bool x597.Fin), (.int .i64 x597.Seen), (.int .i64 x597.Limit)]) sz41 rfl rfl rfl rfl rfl rfl ?_
    refine asg rfl rfl ?_
    refine WL.del 0 ?_
    refine WL.next ?_
    refine WC.seq ?_
    refine WC.region ?_
    refine mv rfl rfl ?_
    refine nt rfl rfl ?_
    refine WL.next ?_
    refine WC.itebn rfl h (fun k609 h => ?_) (fun k609 h => ?_)
    · skip
      refine WC.skip ?_
      refine WX.then_ ?_
      refine WC.region ?_
      refine mv rfl rfl ?_
      refine ad rfl rfl rfl ?_
      refine asg rfl rfl ?_
      refine WL.nil ?_
      refine WX.block_normal ?_
      refine WX.front 1 ?_
      refine WX.front 1 ?_
      refine WX.round ?_
      exact (ih2 ⟨s599, w64 (x578 + 1)⟩ _ ll2 trivial h).sub ⟨rfl, rfl, rfl, trivial⟩
    refine WC.exit ?_
    refine WX.then_exit ?_
    refine WX.block_there rfl ?_
    refine WX.then_exit ?_
    refine WX.block_here ?_
    refine WX.then_ ?_
    refine WC.seq ?_
    refine WC.region ?_
    refine mv rfl rfl ?_
    refine mv rfl rfl ?_
    refine ln et42 rfl (OV.rd 1 rfl) rfl ?_
    refine lt rfl rfl rfl ?_
    refine mv rfl rfl ?_
    rcases spl h with ⟨k610, h⟩ | ⟨k610, h⟩
    · skip
      refine WL.rb 110 rfl (bT k610) ?_
      refine WL.on rfl rfl ?_
      obtain ⟨x611, e612, h⟩ := bnd h
      refine call cl33 rfl rfl (W33 e612) (fun _ J613 _ hJ614 q615 => ?_)
      have hI := hI.trans hJ614
      have ll2 := ll2.trans hJ614
      obtain ⟨rfl, rfl⟩ := q615
      refine pkT rfl rfl rfl ?_
      refine asg rfl rfl ?_
      refine WL.del 0 ?_
      refine WL.del 0 ?_
      refine WL.next ?_
      refine WC.ret ?_
      cases h
      exact ret1 Try.results12 rfl hI ⟨rfl, rfl⟩
    refine WL.rb 110 rfl (bF k610) ?_
    refine WL.no rfl rfl rfl rfl ?_
    refine pkF rfl rfl rfl ?_
    refine asg rfl rfl ?_
    refine WL.del 0 ?_
    refine WL.del 0 ?_
    refine WL.next ?_
    refine WC.ret ?_
    cases h
    exact ret1 Try.results12 rfl hI ⟨rfl, rfl⟩
  refine WC.exit ?_
  refine WX.then_exit ?_
  refine WX.then_exit ?_
  refine WX.block_here ?_
  refine WX.then_ ?_
  refine WC.seq ?_
  refine WC.region ?_
  refine mv rfl rfl ?_
  refine mv rfl rfl ?_
  refine ln et42 rfl (OV.rd 1 rfl) rfl ?_
  refine lt rfl rfl rfl ?_
  refine mv rfl rfl ?_
  rcases spl h with ⟨k616, h⟩ | ⟨k616, h⟩
  · skip
    refine WL.rb 110 rfl (bT k616) ?_
    refine WL.on rfl rfl ?_
    obtain ⟨x617, e618, h⟩ := bnd h
    refine call cl33 rfl rfl (W33 e618) (fun _ J619 _ hJ620 q621 => ?_)
    have hI := hI.trans hJ620
    have ll2 := ll2.trans hJ620
    obtain ⟨rfl, rfl⟩ := q621
    refine pkT rfl rfl rfl ?_
    refine asg rfl rfl ?_
    refine WL.del 0 ?_
    refine WL.del 0 ?_
    refine WL.next ?_
    refine WC.ret ?_
    cases h
    exact ret1 Try.results12 rfl hI ⟨rfl, rfl⟩
  refine WL.rb 110 rfl (bF k616) ?_
  refine WL.no rfl rfl rfl rfl ?_
  refine pkF rfl rfl rfl ?_
  refine asg rfl rfl ?_
  refine WL.del 0 ?_
  refine WL.del 0 ?_
  refine WL.next ?_
  refine WC.ret ?_
  cases h
  exact ret1 Try.results12 rfl hI ⟨rfl, rfl⟩
theorem W50 {I : Mem} {G : List Asn} {p0 : List UInt8} {r : api_Packet × Int} (h : packet_Unpack p0 = some r) {u0 : Value} (hp0 : IV I u0 p0) :
    CallsS Try.prog 50 #[u0] I (G) (fun v J G' => ∃ ra0_5 rc0_5, v = .tuple #[.agg #[.int .i64 r.1.Kind, .int .i64 r.1.Path, .int .i64 r.1.Number, .int .i64 r.1.Of, .int .i64 r.1.From, .slice ra0_5 r.1.Data.length rc0_5, .bool r.1.Fin, .int .i64 r.1.Seen, .int .i64 r.1.Limit], .int .i64 r.2] ∧ IV J (.slice ra0_5 r.1.Data.length rc0_5) r.1.Data ∧ G = G') := by
  refine CallsS.enter Try.func50 rfl Try.ntmps50 rfl (fun w0 => ?_)
  have hI := Mem.le.refl I
  obtain ⟨a0, c0, rfl⟩ := hp0.hd
  unfold packet_Unpack at h
  refine WC.seq ?_
  refine WC.region ?_
  refine al Try.zeroValue41 rfl (fun g1 => ?_)
  refine asg rfl rfl ?_
  refine WL.next ?_
  refine WC.seq ?_
  refine WC.region ?_
  refine mv rfl rfl ?_
  obtain ⟨⟨x3, x4⟩, e5, h⟩ := bnd h
  refine call cl18 rfl rfl (W18 e5 hp0) (fun _ J6 _ hJ7 q8 => ?_)
  have hI := hI.trans hJ7
  replace hp0 := hp0.up hJ7
  obtain ⟨a9, c10, rfl, rfl⟩ := q8
  refine mv rfl rfl ?_
  refine ex rfl rfl rfl ?_
  refine ex rfl rfl rfl ?_
  refine asg rfl rfl ?_
  refine asg rfl rfl ?_
  refine WL.next ?_
  refine WC.seq ?_
  refine WC.seq ?_
  refine WC.region ?_
  refine mv rfl rfl ?_
  refine nt rfl rfl ?_
  refine WL.next ?_
  refine WC.itebn rfl h (fun k12 h => ?_) (fun k12 h => ?_)
  · skip
    refine WC.skip ?_
    refine WX.then_ ?_
    refine WC.seq ?_
    refine WC.region ?_
    refine mv rfl rfl ?_
    refine WL.freeze (fun J13 hJ14 h15 => ?_)
    have hI := hI.trans hJ14
    obtain ⟨s16, e17, h⟩ := bnd h
    refine call cl46 rfl rfl (W46 e17 h15) (fun _ J18 _ hJ19 q20 => ?_)
    have hI := hI.trans hJ19
    replace h15 := h15.up hJ19
    obtain ⟨g21, rfl, rfl⟩ := q20
    refine asg rfl rfl ?_
    refine WL.next ?_
    refine WC.seq ?_
    refine WC.region ?_
    refine mv rfl rfl ?_
    obtain ⟨⟨x23, x24, s25⟩, e26, h⟩ := bnd h
    refine call cl47 rfl rfl (W47 e26) (fun _ J27 _ hJ28 q29 => ?_)
    have hI := hI.trans hJ28
    obtain ⟨a30, c31, rfl, h32, rfl⟩ := q29
    refine mv rfl rfl ?_
    refine ex rfl rfl rfl ?_
    refine ex rfl rfl rfl ?_
    refine al Try.zeroValue41 rfl (fun g33 => ?_)
    refine sta (C' := #[(.int .i64 x23.Kind), (.int .i64 x23.Path), (.int .i64 x23.Number), (.int .i64 x23.Of), (.int .i64 x23.From), (.slice a30 x23.Data.length c31), (.bool x23.Fin), (.int .i64 x23.Seen), (.int .i64 x23.Limit)]) sz41 rfl rfl rfl rfl rfl rfl ?_
    refine asg rfl rfl ?_
    refine WL.next ?_
    refine WC.seq ?_
    refine WC.seq ?_
    refine WC.region ?_
    refine mv rfl rfl ?_
    refine nt rfl rfl ?_
    refine mv rfl rfl ?_
    rcases spl h with ⟨k35, h⟩ | ⟨k35, h⟩
    · skip
      refine WL.rb 25 rfl (bt1n k35) ?_
      refine WL.on rfl rfl ?_
      refine mv rfl rfl ?_
      refine WL.on rfl rfl ?_
      refine WL.front 1 ?_
      obtain ⟨⟨x36, s37⟩, e38, h⟩ := bnd h
      refine call cl48 rfl rfl (W48 e38) (fun _ J39 _ hJ40 q41 => ?_)
      have hI := hI.trans hJ40
      replace h32 := h32.up hJ40
      obtain ⟨rfl, rfl⟩ := q41
      refine WL.on rfl rfl ?_
      refine gt rfl rfl rfl ?_
      refine pkF rfl rfl rfl ?_
      refine WL.del 0 ?_
      refine WL.next ?_
      refine WC.ite rfl h (fun k42 h => ?_) (fun k42 h => ?_)
      · skip
        refine WC.seq ?_
        refine WC.region ?_
        refine bu bt41 rfl rfl rfl ?_
        refine WL.front 1 ?_
        refine sta (C' := #[(.int .i64 0), (.int .i64 0), (.int .i64 0), (.int .i64 0), (.int .i64 0), (.slice none 0 0), (.bool false), (.int .i64 0), (.int .i64 0)]) sz41 rfl rfl rfl rfl rfl rfl ?_
        refine asg rfl rfl ?_
        refine WL.del 1 ?_
        refine WL.next ?_
        refine WC.ret ?_
        refine WX.then_ret ?_
        cases h
        exact retC2x Try.results50 (fun a w ha hw => ⟨RC.cellA ha hw 0 rfl ya41 rfl rfl, RC.tmp ha rfl⟩) (fun w hw => hw |>.del 0) hI ⟨_, _, rfl, (IV.nil _ : IV _ _ ([] : List UInt8)), rfl⟩
      refine WC.skip ?_
      refine WX.then_ ?_
      refine WC.seq ?_
      refine WC.region ?_
      refine lda 0 ya41 rfl rfl rfl rfl rfl ?_
      refine WL.front 1 ?_
      refine sta (C' := #[(.int .i64 x23.Kind), (.int .i64 x23.Path), (.int .i64 x23.Number), (.int .i64 x23.Of), (.int .i64 x23.From), (.slice a30 x23.Data.length c31), (.bool x23.Fin), (.int .i64 x23.Seen), (.int .i64 x23.Limit)]) sz41 rfl rfl rfl rfl rfl rfl ?_
      refine asg rfl rfl ?_
      refine WL.del 1 ?_
      refine WL.next ?_
      refine WC.ret ?_
      cases h
      exact retC2x Try.results50 (fun a w ha hw => ⟨RC.cellA ha hw 0 rfl ya41 rfl rfl, RC.tmp ha rfl⟩) (fun w hw => hw |>.del 0) hI ⟨_, _, rfl, h32, rfl⟩
    refine WL.rb 25 rfl (bf1n k35) ?_
    refine WL.no rfl rfl rfl rfl ?_
    refine WL.no rfl rfl rfl rfl ?_
    refine WL.no rfl rfl rfl rfl ?_
    refine pkT rfl rfl rfl ?_
    refine WL.del 1 ?_
    refine WL.next ?_
    refine WC.cond rfl (fun _ => ?_) (fun k => by cases k)
    refine WC.seq ?_
    refine WC.region ?_
    refine bu bt41 rfl rfl rfl ?_
    refine WL.front 1 ?_
    refine sta (C' := #[(.int .i64 0), (.int .i64 0), (.int .i64 0), (.int .i64 0), (.int .i64 0), (.slice none 0 0), (.bool false), (.int .i64 0), (.int .i64 0)]) sz41 rfl rfl rfl rfl rfl rfl ?_
    refine asg rfl rfl ?_
    refine WL.del 1 ?_
    refine WL.next ?_
    refine WC.ret ?_
    refine WX.then_ret ?_
    cases h
    exact retC2x Try.results50 (fun a w ha hw => ⟨RC.cellA ha hw 0 rfl ya41 rfl rfl, RC.tmp ha rfl⟩) (fun w hw => hw |>.del 0) hI ⟨_, _, rfl, (IV.nil _ : IV _ _ ([] : List UInt8)), rfl⟩
  refine WC.seq ?_
  refine WC.region ?_
  refine bu bt41 rfl rfl rfl ?_
  refine WL.front 1 ?_
  refine sta (C' := #[(.int .i64 0), (.int .i64 0), (.int .i64 0), (.int .i64 0), (.int .i64 0), (.slice none 0 0), (.bool false), (.int .i64 0), (.int .i64 0)]) sz41 rfl rfl rfl rfl rfl rfl ?_
  refine asg rfl rfl ?_
  refine WL.del 1 ?_
  refine WL.next ?_
  refine WC.ret ?_
  refine WX.then_ret ?_
  cases h
  exact retC2x Try.results50 (fun a w ha hw => ⟨RC.cellA ha hw 0 rfl ya41 rfl rfl, RC.tmp ha rfl⟩) (fun w hw => hw |>.del 0) hI ⟨_, _, rfl, (IV.nil _ : IV _ _ ([] : List UInt8)), rfl⟩
theorem W13 {I : Mem} {G : List Asn} {p0 : api_Packet} {p1 : Int} {p2 : Int} {p3 : UInt32} {r : Bool} (h : haulierlaw06_PacketBack p0 p1 p2 p3 = some r) {u0_5 : Value} (hp0_5 : IV I u0_5 p0.Data) :
    CallsS Try.prog 13 #[.agg #[(.int .i64 p0.Kind), (.int .i64 p0.Path), (.int .i64 p0.Number), (.int .i64 p0.Of), (.int .i64 p0.From), u0_5, (.bool p0.Fin), (.int .i64 p0.Seen), (.int .i64 p0.Limit)], .int .i64 p1, .int .i64 p2, .int .u32 (p3.toNat : Int)] I (G) (fun v J G' => v = .bool r ∧ G = G') := by
  refine CallsS.enter Try.func13 rfl Try.ntmps13 rfl (fun w0 => ?_)
  have hI := Mem.le.refl I
  obtain ⟨a0_5, c0_5, rfl⟩ := hp0_5.hd
  unfold haulierlaw06_PacketBack at h
  refine WC.seq ?_
  refine WC.region ?_
  refine bx rfl rfl rfl (fun g1 => ?_)
  refine asg rfl rfl ?_
  refine WL.next ?_
  refine WC.seq ?_
  refine WC.sub (r := [(1, (.int .i64 p1)), (2, (.int .i64 p2)), (3, (.int .u32 (p3.toNat : Int))), (4, (.pointer (some ⟨g1, 0, none⟩)))]) ?_ ⟨rfl, rfl, rfl, rfl, trivial⟩
  obtain ⟨x3, e4, h⟩ := bnd h
  obtain ⟨x8, e9, h⟩ := bnd h
  refine WC.drawn mo (nthL [[], [], [1], [0, 1, 2], [], [0, 1, 2, 3, 4]]) (nthL [[], [], [1], [0, 2], [], [3, 4]]) (nthK [.val (.agg #[(.int .i64 p0.Kind), (.int .i64 p0.Path), (.int .i64 p0.Number), (.int .i64 p0.Of), (.int .i64 p0.From), (.slice a0_5 p0.Data.length c0_5), (.bool p0.Fin), (.int .i64 p0.Seen), (.int .i64 p0.Limit)]), .val (.int .i64 p1), .val (.int .i64 x3), .of (fun v I => ∃ a3_0 c3_0, v = (.agg #[(.int .i64 x8.Kind), (.int .i64 x8.Path), (.int .i64 x8.Number), (.int .i64 x8.Of), (.int .i64 x8.From), (.slice a3_0 x8.Data.length c3_0), (.bool x8.Fin), (.int .i64 x8.Seen), (.int .i64 x8.Limit)]) ∧ IV I (.slice a3_0 x8.Data.length c3_0) x8.Data) (fun q ⟨a3_0, c3_0, e, h3_0⟩ => ⟨a3_0, c3_0, e, h3_0.up q⟩), .of (fun v _ => ∃ g, v = .pointer (some ⟨g, 0, none⟩)) (fun _ h => h), .any]) [⟨none, none, [0], [], fun _ => bl g1 #[(.int .i64 p0.Kind), (.int .i64 p0.Path), (.int .i64 p0.Number), (.int .i64 p0.Of), (.int .i64 p0.From), (.slice a0_5 p0.Data.length c0_5), (.bool p0.Fin), (.int .i64 p0.Seen), (.int .i64 p0.Limit)] 41⟩, ⟨(some 4), (some 5), [], [4], fun l => bl (pblk (vget l 0)) #[(.int .i64 0), (.int .i64 0), (.int .i64 0), (.int .i64 0), (.int .i64 0), (.slice none 0 0), (.bool false), (.int .i64 0), (.int .i64 0)] 41⟩, ⟨(some 5), none, [], [3, 4], fun l => bl (pblk (vget l 1)) #[(.int .i64 x8.Kind), (.int .i64 x8.Path), (.int .i64 x8.Number), (.int .i64 x8.Of), (.int .i64 x8.From), (vnth (vget l 0) 5), (.bool x8.Fin), (.int .i64 x8.Seen), (.int .i64 x8.Limit)] 41⟩] (by kernel_rfl) (by kernel_rfl) (by kernel_rfl) (H := G) rfl ⟨?_, ?_, ?_, ?_, ?_, ?_, trivial⟩ ?_
  · intro Q ρ I1 H hI1 hk hpost
    have hc := Mem.le.refl I1
    refine lda 0 ya41 rfl rfl rfl rfl rfl ?_
    refine WL.nil ?_
    exact hpost _ _ hc rfl _ (fun _ hd => by obtain rfl := Option.some.inj hd; exact ⟨rfl, trivial⟩)
  · intro Q ρ I1 H hI1 hk hpost
    have hc := Mem.le.refl I1
    refine mv rfl rfl ?_
    refine WL.nil ?_
    exact hpost _ _ hc rfl _ (fun _ hd => by obtain rfl := Option.some.inj hd; exact ⟨rfl, trivial⟩)
  · intro Q ρ I1 H hI1 hk hpost
    obtain ⟨_, -⟩ := hk
    have hc := Mem.le.refl I1
    refine call cl19 rfl rfl (W19 e4) (fun _ J5 _ hJ6 q7 => ?_)
    have hc := hc.trans hJ6
    obtain ⟨rfl, rfl⟩ := q7
    refine WL.nil ?_
    exact hpost _ _ hc rfl _ (fun _ hd => by obtain rfl := Option.some.inj hd; exact ⟨rfl, trivial⟩)
  · intro Q ρ I1 H hI1 hk hpost
    obtain ⟨_, _, -⟩ := hk
    replace hp0_5 := hp0_5.up hI1
    have hc := Mem.le.refl I1
    refine call cl34 rfl rfl (W34 e9 hp0_5) (fun _ J10 _ hJ11 q12 => ?_)
    have hc := hc.trans hJ11
    replace hp0_5 := hp0_5.up hJ11
    obtain ⟨a13, c14, rfl, h15, rfl⟩ := q12
    refine WL.nil ?_
    exact hpost _ _ hc ⟨_, _, rfl, h15⟩ _ (fun _ hd => by obtain rfl := Option.some.inj hd; exact ⟨rfl, trivial⟩)
  · intro Q ρ I1 H hI1 hk hpost
    have hc := Mem.le.refl I1
    refine al Try.zeroValue41 rfl (fun g16 => ?_)
    refine WL.nil ?_
    exact hpost _ _ hc ⟨_, rfl⟩ _ (fun _ hd => by obtain rfl := Option.some.inj hd; exact ⟨rfl, trivial⟩)
  · intro Q ρ I1 H hI1 hk hpost
    obtain ⟨k3, k4, -⟩ := hk
    have hc := Mem.le.refl I1
    refine WL.sub (r := [(9, (ρ 4)), (20, (ρ 3))]) ?_ ⟨rfl, rfl, trivial⟩
    refine WL.conv (H := bl (pblk (ρ 4)) #[(.int .i64 0), (.int .i64 0), (.int .i64 0), (.int .i64 0), (.int .i64 0), (.slice none 0 0), (.bool false), (.int .i64 0), (.int .i64 0)] 41 :: H) (fun _ h => h) ?_
    obtain ⟨gp4, ex4⟩ := k4
    try rw [ex4]
    obtain ⟨a3_0, c3_0, ex3, h3_0⟩ := k3
    try rw [ex3]
    refine sta (C' := #[(.int .i64 x8.Kind), (.int .i64 x8.Path), (.int .i64 x8.Number), (.int .i64 x8.Of), (.int .i64 x8.From), (.slice a3_0 x8.Data.length c3_0), (.bool x8.Fin), (.int .i64 x8.Seen), (.int .i64 x8.Limit)]) sz41 rfl rfl rfl rfl rfl rfl ?_
    refine WL.conv (H := bl (pblk (ρ 4)) #[(.int .i64 x8.Kind), (.int .i64 x8.Path), (.int .i64 x8.Number), (.int .i64 x8.Of), (.int .i64 x8.From), (vnth (ρ 3) 5), (.bool x8.Fin), (.int .i64 x8.Seen), (.int .i64 x8.Limit)] 41 :: H) (fun _ h => by revert ex4 ex3 h; generalize ρ 4 = v4; generalize ρ 3 = v3; intro e3 e4 h; subst e4; subst e3; exact h) ?_
    refine WL.nil ?_
    exact hpost undef _ hc trivial _ (fun _ hd => by cases hd)
  rintro ρ J18 hJ19 ⟨_, _, _, k3, k4, -⟩
  refine WX.sub (r := [(2, (.int .i64 p2)), (3, (.int .u32 (p3.toNat : Int))), (9, (ρ 4))]) ?_ ⟨rfl, rfl, rfl, trivial⟩
  refine WX.is (H := bl g1 #[(.int .i64 p0.Kind), (.int .i64 p0.Path), (.int .i64 p0.Number), (.int .i64 p0.Of), (.int .i64 p0.From), (.slice a0_5 p0.Data.length c0_5), (.bool p0.Fin), (.int .i64 p0.Seen), (.int .i64 p0.Limit)] 41 :: bl (pblk (ρ 4)) #[(.int .i64 x8.Kind), (.int .i64 x8.Path), (.int .i64 x8.Number), (.int .i64 x8.Of), (.int .i64 x8.From), (vnth (ρ 3) 5), (.bool x8.Fin), (.int .i64 x8.Seen), (.int .i64 x8.Limit)] 41 :: G) rfl ?_
  generalize ρ 4 = v4 at *; obtain ⟨q20, rfl⟩ := k4
  generalize ρ 3 = v3 at *; obtain ⟨q21, q22, rfl, q23⟩ := k3
  have hI := hI.trans hJ19
  replace hp0_5 := hp0_5.up hJ19
  refine WX.sub (r := [(2, (.int .i64 p2)), (3, (.int .u32 (p3.toNat : Int))), (9, (.pointer (some ⟨q20, 0, none⟩)))]) ?_ ⟨rfl, rfl, rfl, trivial⟩
  refine WX.is (H := bl g1 #[(.int .i64 p0.Kind), (.int .i64 p0.Path), (.int .i64 p0.Number), (.int .i64 p0.Of), (.int .i64 p0.From), (.slice a0_5 p0.Data.length c0_5), (.bool p0.Fin), (.int .i64 p0.Seen), (.int .i64 p0.Limit)] 41 :: bl q20 #[(.int .i64 x8.Kind), (.int .i64 x8.Path), (.int .i64 x8.Number), (.int .i64 x8.Of), (.int .i64 x8.From), (.slice q21 x8.Data.length q22), (.bool x8.Fin), (.int .i64 x8.Seen), (.int .i64 x8.Limit)] 41 :: G) rfl ?_
  refine WX.then_ ?_
  refine WC.seq ?_
  refine WC.region ?_
  refine lda 1 ya41 rfl rfl rfl rfl rfl ?_
  obtain ⟨⟨x24, x25⟩, e26, h⟩ := bnd h
  refine call cl30 rfl rfl (W30 e26 q23) (fun _ J27 _ hJ28 q29 => ?_)
  have hI := hI.trans hJ28
  replace q23 := q23.up hJ28; replace hp0_5 := hp0_5.up hJ28
  obtain ⟨a30, c31, rfl, rfl⟩ := q29
  refine mv rfl rfl ?_
  refine ex rfl rfl rfl ?_
  refine ex rfl rfl rfl ?_
  refine asg rfl rfl ?_
  refine asg rfl rfl ?_
  refine WL.del 1 ?_
  refine WL.next ?_
  refine WC.seq ?_
  refine WC.seq ?_
  obtain ⟨j36, hj36, h⟩ := bnd h
  refine WC.joinQ (σ := Bool) (fun x35 => [(2, (.int .i64 p2)), (3, (.int .u32 (p3.toNat : Int))), (9, (.pointer (some ⟨q20, 0, none⟩))), (10, (.slice a30 x24.length c31)), (32, (.bool x35))]) (fun x35 => OV 5 (.slice a30 x24.length c31) x24 :: bl q20 #[(.int .i64 x8.Kind), (.int .i64 x8.Path), (.int .i64 x8.Number), (.int .i64 x8.Of), (.int .i64 x8.From), (.slice q21 x8.Data.length q22), (.bool x8.Fin), (.int .i64 x8.Seen), (.int .i64 x8.Limit)] 41 :: G) (fun x35 J => x35 = j36) (fun kj36 => ?_) ?_
  · skip
    have lj36 := Mem.le.refl J27
    refine WC.region ?_
    refine mv rfl rfl ?_
    refine ne rfl rfl rfl ?_
    refine mv rfl rfl ?_
    rcases spl hj36 with ⟨k37, hj36⟩ | ⟨k37, hj36⟩
    · skip
      refine WL.rb 28 rfl (bT k37) ?_
      refine WL.no rfl rfl rfl rfl ?_
      refine WL.no rfl rfl rfl rfl ?_
      refine WL.no rfl rfl rfl rfl ?_
      refine pkT rfl rfl rfl ?_
      refine WL.nil ?_
      refine WX.front 1 ?_
      refine WX.front 1 ?_
      exact (kj36 true _ lj36 (Option.some.inj hj36)).sub ⟨rfl, rfl, rfl, rfl, rfl, trivial⟩
    refine WL.rb 28 rfl (bF k37) ?_
    refine WL.on rfl rfl ?_
    refine mv rfl rfl ?_
    refine WL.on rfl rfl ?_
    refine ln et22 rfl (OV.rd 0 rfl) rfl ?_
    refine WL.on rfl rfl ?_
    refine lt rfl rfl rfl ?_
    refine pkF rfl rfl rfl ?_
    refine WL.nil ?_
    refine WX.front 1 ?_
    refine WX.front 1 ?_
    exact (kj36 (decide ((x24.length : Int) < 7)) _ lj36 (Option.some.inj hj36)).sub ⟨rfl, rfl, rfl, rfl, rfl, trivial⟩
  rintro x35 J38 hJ39 rfl
  have hI := hI.trans hJ39
  replace q23 := q23.up hJ39
  refine WX.then_ ?_
  refine WC.iteb rfl h (fun k40 h => ?_) (fun k40 h => ?_)
  · skip
    refine WC.seq ?_
    refine WC.region ?_
    refine asg rfl rfl ?_
    refine WL.del 0 ?_
    refine WL.del 0 ?_
    refine WL.next ?_
    refine WC.ret ?_
    refine WX.then_ret ?_
    cases h
    exact ret1 Try.results13 rfl hI ⟨rfl, rfl⟩
  refine WC.skip ?_
  refine WX.then_ ?_
  refine WC.seq ?_
  refine WC.region ?_
  refine mv rfl rfl ?_
  refine WL.freeze (fun J41 hJ42 h43 => ?_)
  have hI := hI.trans hJ42
  replace q23 := q23.up hJ42
  obtain ⟨⟨x44, x45⟩, e46, h⟩ := bnd h
  refine call cl50 rfl rfl (W50 e46 h43) (fun _ J47 _ hJ48 q49 => ?_)
  have hI := hI.trans hJ48
  replace h43 := h43.up hJ48; replace q23 := q23.up hJ48
  obtain ⟨a50, c51, rfl, h52, rfl⟩ := q49
  refine mv rfl rfl ?_
  refine ex rfl rfl rfl ?_
  refine ex rfl rfl rfl ?_
  refine al Try.zeroValue41 rfl (fun g53 => ?_)
  refine sta (C' := #[(.int .i64 x44.Kind), (.int .i64 x44.Path), (.int .i64 x44.Number), (.int .i64 x44.Of), (.int .i64 x44.From), (.slice a50 x44.Data.length c51), (.bool x44.Fin), (.int .i64 x44.Seen), (.int .i64 x44.Limit)]) sz41 rfl rfl rfl rfl rfl rfl ?_
  refine asg rfl rfl ?_
  refine WL.next ?_
  refine WC.seq ?_
  refine WC.region ?_
  refine mv rfl rfl ?_
  refine mv rfl rfl ?_
  refine mv rfl rfl ?_
  refine ln et22 rfl (h43.rd) rfl ?_
  refine mu rfl rfl rfl ?_
  obtain ⟨x55, e56, h⟩ := bnd h
  refine call cl19 rfl rfl (W19 e56) (fun _ J57 _ hJ58 q59 => ?_)
  have hI := hI.trans hJ58
  replace h43 := h43.up hJ58; replace h52 := h52.up hJ58; replace q23 := q23.up hJ58
  obtain ⟨rfl, rfl⟩ := q59
  refine mv rfl rfl ?_
  refine or32 (a := p3) (b := (1 : UInt32)) rfl rfl rfl rfl rfl ?_
  obtain ⟨x60, e61, h⟩ := bnd h
  refine call cl27 rfl rfl (W27 e61 h43) (fun _ J62 _ hJ63 q64 => ?_)
  have hI := hI.trans hJ63
  replace h43 := h43.up hJ63; replace h52 := h52.up hJ63; replace q23 := q23.up hJ63
  obtain ⟨a65, c66, rfl, rfl⟩ := q64
  refine asg rfl rfl ?_
  refine WL.next ?_
  refine WC.seq ?_
  refine WC.region ?_
  refine mv rfl rfl ?_
  refine WL.freeze (fun J68 hJ69 h70 => ?_)
  have hI := hI.trans hJ69
  replace h52 := h52.up hJ69; replace q23 := q23.up hJ69
  obtain ⟨⟨x71, x72⟩, e73, h⟩ := bnd h
  refine call cl50 rfl rfl (W50 e73 h70) (fun _ J74 _ hJ75 q76 => ?_)
  have hI := hI.trans hJ75
  replace h70 := h70.up hJ75; replace h52 := h52.up hJ75; replace q23 := q23.up hJ75
  obtain ⟨a77, c78, rfl, h79, rfl⟩ := q76
  refine mv rfl rfl ?_
  refine ex rfl rfl rfl ?_
  refine ex rfl rfl rfl ?_
  refine al Try.zeroValue41 rfl (fun g80 => ?_)
  refine sta (C' := #[(.int .i64 x71.Kind), (.int .i64 x71.Path), (.int .i64 x71.Number), (.int .i64 x71.Of), (.int .i64 x71.From), (.slice a77 x71.Data.length c78), (.bool x71.Fin), (.int .i64 x71.Seen), (.int .i64 x71.Limit)]) sz41 rfl rfl rfl rfl rfl rfl ?_
  refine asg rfl rfl ?_
  refine WL.next ?_
  refine WC.seq ?_
  refine WC.region ?_
  refine mv rfl rfl ?_
  refine eq rfl rfl rfl ?_
  refine mv rfl rfl ?_
  rcases spl h with ⟨k82, h⟩ | ⟨k82, h⟩
  · skip
    refine WL.rb 54 rfl (bT k82) ?_
    refine WL.on rfl rfl ?_
    refine lda 2 ya41 rfl rfl rfl rfl rfl ?_
    refine WL.on rfl rfl ?_
    refine lda 1 ya41 rfl rfl rfl rfl rfl ?_
    refine WL.on rfl rfl ?_
    obtain ⟨x83, e84, h⟩ := bnd h
    refine call cl37 rfl rfl (W37 e84 q23 h52) (fun _ J85 _ hJ86 q87 => ?_)
    have hI := hI.trans hJ86
    replace q23 := q23.up hJ86; replace h52 := h52.up hJ86; replace h79 := h79.up hJ86
    obtain ⟨rfl, rfl⟩ := q87
    refine pkT rfl rfl rfl ?_
    refine mv rfl rfl ?_
    rcases spl h with ⟨k88, h⟩ | ⟨k88, h⟩
    · skip
      refine WL.rb 59 rfl (bt1 k88) ?_
      refine WL.on rfl rfl ?_
      refine mv rfl rfl ?_
      refine WL.on rfl rfl ?_
      refine eq rfl rfl rfl ?_
      refine pkT rfl rfl rfl ?_
      refine mv rfl rfl ?_
      rcases spl h with ⟨k89, h⟩ | ⟨k89, h⟩
      · skip
        refine WL.rb 63 rfl (bT k89) ?_
        refine WL.on rfl rfl ?_
        refine lda 0 ya41 rfl rfl rfl rfl rfl ?_
        refine WL.on rfl rfl ?_
        refine bu bt41 rfl rfl rfl ?_
        refine WL.on rfl rfl ?_
        obtain ⟨x90, e91, h⟩ := bnd h
        refine call cl37 rfl rfl (W37 e91 h79 (IV.nil _ : IV _ _ ([] : List UInt8))) (fun _ J92 _ hJ93 q94 => ?_)
        have hI := hI.trans hJ93
        replace q23 := q23.up hJ93; replace h52 := h52.up hJ93; replace h79 := h79.up hJ93
        obtain ⟨rfl, rfl⟩ := q94
        refine pkT rfl rfl rfl ?_
        refine mv rfl rfl ?_
        rcases spl h with ⟨k95, h⟩ | ⟨k95, h⟩
        · skip
          refine WL.rb 68 rfl (bt1 k95) ?_
          refine WL.on rfl rfl ?_
          obtain ⟨x96, e97, h⟩ := bnd h
          refine call cl33 rfl rfl (W33 e97) (fun _ J98 _ hJ99 q100 => ?_)
          have hI := hI.trans hJ99
          replace q23 := q23.up hJ99; replace h52 := h52.up hJ99; replace h79 := h79.up hJ99
          obtain ⟨rfl, rfl⟩ := q100
          refine pkT rfl rfl rfl ?_
          refine asg rfl rfl ?_
          refine WL.del 0 ?_
          refine WL.del 0 ?_
          refine WL.del 0 ?_
          refine WL.next ?_
          refine WC.ret ?_
          cases h
          exact ret1 Try.results13 rfl hI ⟨rfl, rfl⟩
        refine WL.rb 68 rfl (bf1 k95) ?_
        refine WL.no rfl rfl rfl rfl ?_
        refine pkF rfl rfl rfl ?_
        refine asg rfl rfl ?_
        refine WL.del 0 ?_
        refine WL.del 0 ?_
        refine WL.del 0 ?_
        refine WL.next ?_
        refine WC.ret ?_
        cases h
        exact ret1 Try.results13 rfl hI ⟨rfl, rfl⟩
      refine WL.rb 63 rfl (bF k89) ?_
      refine WL.no rfl rfl rfl rfl ?_
      refine WL.no rfl rfl rfl rfl ?_
      refine WL.no rfl rfl rfl rfl ?_
      refine pkF rfl rfl rfl ?_
      refine mv rfl rfl ?_
      refine WL.no rfl rfl rfl rfl ?_
      refine pkF rfl rfl rfl ?_
      refine asg rfl rfl ?_
      refine WL.del 0 ?_
      refine WL.del 0 ?_
      refine WL.del 0 ?_
      refine WL.next ?_
      refine WC.ret ?_
      cases h
      exact ret1 Try.results13 rfl hI ⟨rfl, rfl⟩
    refine WL.rb 59 rfl (bf1 k88) ?_
    refine WL.no rfl rfl rfl rfl ?_
    refine WL.no rfl rfl rfl rfl ?_
    refine pkF rfl rfl rfl ?_
    refine mv rfl rfl ?_
    refine WL.no rfl rfl rfl rfl ?_
    refine WL.no rfl rfl rfl rfl ?_
    refine WL.no rfl rfl rfl rfl ?_
    refine pkF rfl rfl rfl ?_
    refine mv rfl rfl ?_
    refine WL.no rfl rfl rfl rfl ?_
    refine pkF rfl rfl rfl ?_
    refine asg rfl rfl ?_
    refine WL.del 0 ?_
    refine WL.del 0 ?_
    refine WL.del 0 ?_
    refine WL.next ?_
    refine WC.ret ?_
    cases h
    exact ret1 Try.results13 rfl hI ⟨rfl, rfl⟩
  refine WL.rb 54 rfl (bF k82) ?_
  refine WL.no rfl rfl rfl rfl ?_
  refine WL.no rfl rfl rfl rfl ?_
  refine WL.no rfl rfl rfl rfl ?_
  refine pkF rfl rfl rfl ?_
  refine mv rfl rfl ?_
  refine WL.no rfl rfl rfl rfl ?_
  refine WL.no rfl rfl rfl rfl ?_
  refine pkF rfl rfl rfl ?_
  refine mv rfl rfl ?_
  refine WL.no rfl rfl rfl rfl ?_
  refine WL.no rfl rfl rfl rfl ?_
  refine WL.no rfl rfl rfl rfl ?_
  refine pkF rfl rfl rfl ?_
  refine mv rfl rfl ?_
  refine WL.no rfl rfl rfl rfl ?_
  refine pkF rfl rfl rfl ?_
  refine asg rfl rfl ?_
  refine WL.del 0 ?_
  refine WL.del 0 ?_
  refine WL.del 0 ?_
  refine WL.next ?_
  refine WC.ret ?_
  cases h
  exact ret1 Try.results13 rfl hI ⟨rfl, rfl⟩
end Go.Proofs.Ytgobccnphhljcaa
