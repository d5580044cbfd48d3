/- The statement PacketUnpacks: whatever the input, the call returns true, and what was there reads as it did; no condition. (The shell after the kit's program.) -/
import Derived.Test.YtgobccnphhljcaaRows
import Derived.Test.YtgobccnphhljcaaQo
import Derived.Test.YtgobccnphhljcaaKU6
import Derived.Test.YtgobccnphhljcaaJb
import Derived.WalkKit
import Derived.ProofKit
import Derived.OpenShut
import Derived.ShutString
import Derived.ChangeOld
import Derived.Below
namespace Go.Proofs.Ytgobccnphhljcaa.packetUnpacks
open Go.ChangeShapes Go.WideShapes Go.ChangeAt Go.RowKit
open Go.ChangeMaps (open_string shut_string)
set_option linter.unusedVariables false

theorem own : ownKnob Try.prog.godebug = none := by kernel_rfl
theorem laidOut : laidOutB Try.prog = true := by kernel_rfl

/-! ### The types of the parameters -/
theorem op5 : Opens Try.prog 5 UInt8 := Opens.u8 Try.underlying5 (by kernel_rfl)
theorem op22 : Opens Try.prog 22 (List UInt8) := Opens.slice op5 Try.underlying22 (by kernel_rfl)
theorem op3 : Opens Try.prog 3 Int := Opens.int Try.underlying3 (by kernel_rfl)
theorem op4 : Opens Try.prog 4 Bool := Opens.bool Try.underlying4 (by kernel_rfl)
instance : GoB api_Packet := ⟨fun x => GoB.ok x.Kind ∧ GoB.ok x.Path ∧ GoB.ok x.Number ∧ GoB.ok x.Of ∧ GoB.ok x.From ∧ GoB.ok x.Data ∧ GoB.ok x.Fin ∧ GoB.ok x.Seen ∧ GoB.ok x.Limit⟩
theorem op41 : Opens Try.prog 41 api_Packet := {
  sz := by kernel_rfl
  vl := fun h => by
    obtain ⟨cs, rfl, _⟩ := okWide_struct Try.underlying41 h
    exact ⟨cs, rfl⟩
  op := fun {_ _ _ _ _ _ cs _} h => by
    obtain ⟨xs, n, _, _, hl, hlen, hf⟩ := DataW.trod_struct Try.underlying41 h
    have hc : cs.length = 9 := hl.trans (by kernel_rfl)
    obtain ⟨x0, t0⟩ := some_at (hf 0 _ rfl) hlen (by decide)
    obtain ⟨y0, r0, o0⟩ := op3.op t0
    have e0 : (cs.drop 0).take 1 = _ := rfl
    have k0 : Try.prog.cellsOf 3 = 1 := by kernel_rfl
    have q0 : _ = [_] := r0
    obtain ⟨x1, t1⟩ := some_at (hf 1 _ rfl) hlen (by decide)
    obtain ⟨y1, r1, o1⟩ := op3.op t1
    have e1 : (cs.drop 1).take 1 = _ := rfl
    have k1 : Try.prog.cellsOf 3 = 1 := by kernel_rfl
    have q1 : _ = [_] := r1
    obtain ⟨x2, t2⟩ := some_at (hf 2 _ rfl) hlen (by decide)
    obtain ⟨y2, r2, o2⟩ := op3.op t2
    have e2 : (cs.drop 2).take 1 = _ := rfl
    have k2 : Try.prog.cellsOf 3 = 1 := by kernel_rfl
    have q2 : _ = [_] := r2
    obtain ⟨x3, t3⟩ := some_at (hf 3 _ rfl) hlen (by decide)
    obtain ⟨y3, r3, o3⟩ := op3.op t3
    have e3 : (cs.drop 3).take 1 = _ := rfl
    have k3 : Try.prog.cellsOf 3 = 1 := by kernel_rfl
    have q3 : _ = [_] := r3
    obtain ⟨x4, t4⟩ := some_at (hf 4 _ rfl) hlen (by decide)
    obtain ⟨y4, r4, o4⟩ := op3.op t4
    have e4 : (cs.drop 4).take 1 = _ := rfl
    have k4 : Try.prog.cellsOf 3 = 1 := by kernel_rfl
    have q4 : _ = [_] := r4
    obtain ⟨x5, t5⟩ := some_at (hf 5 _ rfl) hlen (by decide)
    obtain ⟨y5, r5, o5⟩ := op22.op t5
    have e5 : (cs.drop 5).take 1 = _ := rfl
    have k5 : Try.prog.cellsOf 22 = 1 := by kernel_rfl
    obtain ⟨v5, q5, f5_0⟩ := r5
    obtain ⟨x6, t6⟩ := some_at (hf 6 _ rfl) hlen (by decide)
    obtain ⟨y6, r6, o6⟩ := op4.op t6
    have e6 : (cs.drop 6).take 1 = _ := rfl
    have k6 : Try.prog.cellsOf 4 = 1 := by kernel_rfl
    have q6 : _ = [_] := r6
    obtain ⟨x7, t7⟩ := some_at (hf 7 _ rfl) hlen (by decide)
    obtain ⟨y7, r7, o7⟩ := op3.op t7
    have e7 : (cs.drop 7).take 1 = _ := rfl
    have k7 : Try.prog.cellsOf 3 = 1 := by kernel_rfl
    have q7 : _ = [_] := r7
    obtain ⟨x8, t8⟩ := some_at (hf 8 _ rfl) hlen (by decide)
    obtain ⟨y8, r8, o8⟩ := op3.op t8
    have e8 : (cs.drop 8).take 1 = _ := rfl
    have k8 : Try.prog.cellsOf 3 = 1 := by kernel_rfl
    have q8 : _ = [_] := r8
    have hs : cs = (cs.drop 0).take 1 ++ ((cs.drop 1).take 1 ++ ((cs.drop 2).take 1 ++ ((cs.drop 3).take 1 ++ ((cs.drop 4).take 1 ++ ((cs.drop 5).take 1 ++ ((cs.drop 6).take 1 ++ ((cs.drop 7).take 1 ++ ((cs.drop 8).take 1 ++ [])))))))) := by
      have h0 : cs = cs.drop 0 := rfl
      have c0 := cut_cells cs 0 1 1 rfl
      have c1 := cut_cells cs 1 1 2 rfl
      have c2 := cut_cells cs 2 1 3 rfl
      have c3 := cut_cells cs 3 1 4 rfl
      have c4 := cut_cells cs 4 1 5 rfl
      have c5 := cut_cells cs 5 1 6 rfl
      have c6 := cut_cells cs 6 1 7 rfl
      have c7 := cut_cells cs 7 1 8 rfl
      have c8 := cut_cells cs 8 1 9 rfl
      have cz := cut_end cs 9 hc
      rw [cz] at c8
      rw [c8] at c7
      rw [c7] at c6
      rw [c6] at c5
      rw [c5] at c4
      rw [c4] at c3
      rw [c3] at c2
      rw [c2] at c1
      rw [c1] at c0
      exact c0
    refine ⟨⟨y0, y1, y2, y3, y4, y5, y6, y7, y8⟩, ⟨v5, ?_, f5_0⟩, o0, o1, o2, o3, o4, o5, o6, o7, o8⟩
    have z0 : (cs.drop 0).take (Try.prog.cellsOf 3) = _ := q0
    rw [k0] at z0
    have z1 : (cs.drop 1).take (Try.prog.cellsOf 3) = _ := q1
    rw [k1] at z1
    have z2 : (cs.drop 2).take (Try.prog.cellsOf 3) = _ := q2
    rw [k2] at z2
    have z3 : (cs.drop 3).take (Try.prog.cellsOf 3) = _ := q3
    rw [k3] at z3
    have z4 : (cs.drop 4).take (Try.prog.cellsOf 3) = _ := q4
    rw [k4] at z4
    have z5 : (cs.drop 5).take (Try.prog.cellsOf 22) = _ := q5
    rw [k5] at z5
    have z6 : (cs.drop 6).take (Try.prog.cellsOf 4) = _ := q6
    rw [k6] at z6
    have z7 : (cs.drop 7).take (Try.prog.cellsOf 3) = _ := q7
    rw [k7] at z7
    have z8 : (cs.drop 8).take (Try.prog.cellsOf 3) = _ := q8
    rw [k8] at z8
    rw [hs, z0, z1, z2, z3, z4, z5, z6, z7, z8]; rfl }

/-! ### The walk -/
theorem walk {w : World} {v0 : Value} {y0 : List UInt8} (r0 : Rv (whole w) v0 y0) (b0 : GoB.ok y0) (l0 : y0.length * Try.prog.bytesOf 5 ≤ reachBytes) {v1 : Value} {y1 : api_Packet} (r1 : Rv (whole w) v1 y1) (b1 : GoB.ok y1) {v2 : Value} {y2 : Int} (r2 : Rv (whole w) v2 y2) (b2 : GoB.ok y2) {v3 : Value} {y3 : Int} (r3 : Rv (whole w) v3 y3) (b3 : GoB.ok y3) {v4 : Value} {y4 : Int} (r4 : Rv (whole w) v4 y4) (b4 : GoB.ok y4) {v5 : Value} {y5 : Bool} (r5 : Rv (whole w) v5 y5) (b5 : GoB.ok y5) {v6 : Value} {y6 : Bool} (r6 : Rv (whole w) v6 y6) (b6 : GoB.ok y6) :
    Calls Try.prog 14 #[v0, v1, v2, v3, v4, v5, v6] w fun e w' => e = .returned (.bool true) ∧ Below w.heap.size w w' := by
  have s0 := Rv.sl r0
  obtain ⟨a1_0, c1_0, rfl, s1_0⟩ := Rv.of_api_Packet r1
  obtain rfl := Rv.int r2
  obtain rfl := Rv.int r3
  obtain rfl := Rv.int r4
  obtain rfl := Rv.bool r5
  obtain rfl := Rv.bool r6
  exact CallsS.law (W14 (unpacks_plain y0 (by have h := l0; rw [show Try.prog.bytesOf 5 = 1 from by kernel_rfl] at h; unfold reachBytes at h; omega) y1 y2 y3 y4 y5 y6) s0 s1_0)

/-! ### The row's step -/
set_option maxRecDepth 100000 in
theorem lifted (os : Os) (started : os.Started) (H : Type) (enc : TypeId × Value → H) :
    ReturnsInHanded {} Try.checked os 14 .any (Rows.packetUnpacksSpec.pre6 enc Try.prog Try.f14 Rows.packetUnpacksRow.domain false) (Rows.packetUnpacksSpec.post enc Try.prog Try.f14 false true false false) := by
  refine returnsInHanded_of_change_sized (C := Try.checked) own started (by kernel_rfl) Try.func14
    (ChangeSpec.witness6 (enc := enc) (C := Try.checked) false ⟨#[], #[.slice none 0 0, .agg #[.int .i64 0, .int .i64 0, .int .i64 0, .int .i64 0, .int .i64 0, .slice none 0 0, .bool false, .int .i64 0, .int .i64 0], .int .i64 0, .int .i64 0, .int .i64 0, .bool false, .bool false], []⟩ 20 (by kernel_rfl) (by kernel_rfl) (by kernel_rfl) (by kernel_rfl)) ?_
  intro W base args ds gs before hval0 hW hcnd hz _
  have hval : ∀ (j : Nat) t v, Try.f14.params[j]? = some t → args[j]? = some v → Value.okWide Try.prog W .any base t v := hval0
  have hW' := hW
  obtain ⟨p, q, hA0, hV, rfl, hfz, hnd⟩ := hW
  have hA : DataW.TrodAll enc Try.prog W 0 (fun _ => true) true Try.f14.params.toList args.toList ds p := hA0
  rw [Try.params14] at hA hval
  obtain ⟨v0, vs0, d0, ds0, p0, q0, hargs, rfl, rfl, h0, u0⟩ := trodAll_cons hA
  obtain ⟨v1, vs1, d1, ds1, p1, q1, rfl, rfl, rfl, h1, u1⟩ := trodAll_cons u0
  obtain ⟨v2, vs2, d2, ds2, p2, q2, rfl, rfl, rfl, h2, u2⟩ := trodAll_cons u1
  obtain ⟨v3, vs3, d3, ds3, p3, q3, rfl, rfl, rfl, h3, u3⟩ := trodAll_cons u2
  obtain ⟨v4, vs4, d4, ds4, p4, q4, rfl, rfl, rfl, h4, u4⟩ := trodAll_cons u3
  obtain ⟨v5, vs5, d5, ds5, p5, q5, rfl, rfl, rfl, h5, u5⟩ := trodAll_cons u4
  obtain ⟨v6, vs6, d6, ds6, p6, q6, rfl, rfl, rfl, h6, u6⟩ := trodAll_cons u5
  obtain ⟨rfl, rfl, rfl⟩ := trodAll_nil u6
  obtain rfl : args = #[v0, v1, v2, v3, v4, v5, v6] := by cases args; simp_all
  obtain ⟨rfl, rfl⟩ := trodVars_none hV
  obtain ⟨y0, r0, b0⟩ := op22.arg (hval 0 22 v0 rfl rfl) h0
  have lt0 : ∀ x ∈ p0, x.block < W.heap.size := by obtain ⟨m, hm⟩ := h0; exact DataW.trod_lt m _ _ _ hm
  obtain ⟨y1, r1, b1⟩ := op41.arg (hval 1 41 v1 rfl rfl) h1
  have lt1 : ∀ x ∈ p1, x.block < W.heap.size := by obtain ⟨m, hm⟩ := h1; exact DataW.trod_lt m _ _ _ hm
  obtain ⟨y2, r2, b2⟩ := op3.arg (hval 2 3 v2 rfl rfl) h2
  have lt2 : ∀ x ∈ p2, x.block < W.heap.size := by obtain ⟨m, hm⟩ := h2; exact DataW.trod_lt m _ _ _ hm
  obtain ⟨y3, r3, b3⟩ := op3.arg (hval 3 3 v3 rfl rfl) h3
  have lt3 : ∀ x ∈ p3, x.block < W.heap.size := by obtain ⟨m, hm⟩ := h3; exact DataW.trod_lt m _ _ _ hm
  obtain ⟨y4, r4, b4⟩ := op3.arg (hval 4 3 v4 rfl rfl) h4
  have lt4 : ∀ x ∈ p4, x.block < W.heap.size := by obtain ⟨m, hm⟩ := h4; exact DataW.trod_lt m _ _ _ hm
  obtain ⟨y5, r5, b5⟩ := op4.arg (hval 5 4 v5 rfl rfl) h5
  have lt5 : ∀ x ∈ p5, x.block < W.heap.size := by obtain ⟨m, hm⟩ := h5; exact DataW.trod_lt m _ _ _ hm
  obtain ⟨y6, r6, b6⟩ := op4.arg (hval 6 4 v6 rfl rfl) h6
  have lt6 : ∀ x ∈ p6, x.block < W.heap.size := by obtain ⟨m, hm⟩ := h6; exact DataW.trod_lt m _ _ _ hm
  have l0 := Opens.len Try.underlying22 r0 h0 hz (j := 0) rfl rfl
  clear hA0 hval0
  refine (walk r0 b0 l0 r1 b1 r2 b2 r3 b3 r4 b4 r5 b5 r6 b6).mono fun e W' ⟨he, bel⟩ => ?_
  subst he
  exact ⟨_, rfl, _, _, _, [], _, [], hW', trodAll_mk1 (shut_bool Try.underlying4 _), (trodAll_cons_mk (Below.trod laidOut (by kernel_rfl) (of_decide_eq_true (by kernel_rfl)) h0 bel lt0) (trodAll_cons_mk (Below.trod laidOut (by kernel_rfl) (of_decide_eq_true (by kernel_rfl)) h1 bel lt1) (trodAll_cons_mk (Below.trod laidOut (by kernel_rfl) (of_decide_eq_true (by kernel_rfl)) h2 bel lt2) (trodAll_cons_mk (Below.trod laidOut (by kernel_rfl) (of_decide_eq_true (by kernel_rfl)) h3 bel lt3) (trodAll_cons_mk (Below.trod laidOut (by kernel_rfl) (of_decide_eq_true (by kernel_rfl)) h4 bel lt4) (trodAll_cons_mk (Below.trod laidOut (by kernel_rfl) (of_decide_eq_true (by kernel_rfl)) h5 bel lt5) (trodAll_cons_mk (Below.trod laidOut (by kernel_rfl) (of_decide_eq_true (by kernel_rfl)) h6 bel lt6) trodAll_mk0))))))), rfl, bel.frame _, fun h => by cases h⟩

theorem over : Rows.packetUnpacksRow.holds Try.pinned (OpenSpec.ofChange Rows.packetUnpacksSpec) :=
  OpenClaim.holds_of_wide 14 Try.f14 rfl rfl rfl rfl rfl rfl rfl ⟨rfl, rfl, rfl, rfl, rfl⟩ rfl rfl rfl rfl rfl (by kernel_rfl) Try.func14 (by kernel_rfl)
    (of_decide_eq_true (by kernel_rfl)) (by unfold Func.isWrapper; first | (rw [if_pos (by decide +kernel)]; kernel_rfl) | (rw [if_neg (by decide +kernel)]; exact ⟨rfl, rfl⟩))
    (fun os started H enc _ => lifted os started H enc)

/-- ████ THE STATEMENT ████ -/
theorem proved : Rows.PacketUnpacksSaid := over
#print axioms proved
end Go.Proofs.Ytgobccnphhljcaa.packetUnpacks
