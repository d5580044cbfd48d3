/- A statement's last step: a call that is walked in the logic of owned and of lasting memory, all that was there lasting. -/
import Derived.Test.YtcfapdamgbbklaaSh
import Derived.Test.YtcfapdamgbbklaaHb
namespace Go.Proofs.Ytcfapdamgbbklaa
open Go.RowKit
set_option linter.unusedVariables false

/-- All that is there. -/
def whole (w : World) : Mem := fun b => w.heap[b]?
theorem SatW.whole (w : World) : SatW w (Proofs.Ytcfapdamgbbklaa.whole w) [] := ⟨fun _ => none, (fun _ _ h => by cases h), fun _ _ h => h, (fun _ _ h => by cases h), trivial⟩
theorem CallsS.law {P : Program} {f : FuncId} {args : Array Value} {w : World} (h : CallsS P f args (whole w) [] (fun v J G' => v = .bool true ∧ [] = G')) : Calls P f args w fun e w' => e = .returned (.bool true) ∧ Below w.heap.size w w' :=
  (h w (SatW.whole w)).mono fun e w' ⟨v, J, G', he, hJ, ⟨hv, _⟩, hs, hx⟩ => by
    subst hv
    obtain ⟨m, a, b, c, d⟩ := hs
    refine ⟨he, hx.1, hx.2.1, hx.2.2.1, hx.2.2.2, fun k hk => ?_⟩
    have h1 : w.heap[k]? = some w.heap[k] := by simp [hk]
    rw [h1]
    exact b _ _ (hJ _ _ h1)
theorem rows_bv {I : Mem} : ∀ xs : List UInt8, Rows I (xs.map bv) xs
  | [] => rfl
  | x :: xs => ⟨[bv x], xs.map bv, rfl, rfl, rows_bv xs⟩
theorem block_of_cell {w : World} {a : Addr} {v : Value} (h : w.cell? a = some v) : ∃ C E fr, w.heap[a.block]? = some (.cells C E fr) ∧ a.spot = none ∧ C[a.off]? = some v := by
  unfold World.cell? at h
  split at h
  · rename_i C E fr hb
    split at h
    · cases h
    · rename_i hs
      exact ⟨C, E, fr, hb, by simpa using hs, h⟩
  · cases h
/-- Bytes that are read are a lasting slice. -/
theorem IV.of_reads {w : World} {ao : Option Addr} {n cap : Nat} {xs : List UInt8} (h : Reads w ao n cap (xs.map bv)) (hb : cap = 0 ∨ ∃ x v, ao = some x ∧ w.cell? x = some v) : IV (whole w) (.slice ao n cap) xs := by
  obtain ⟨h1, h2, h3, h4, h5⟩ := h
  have hn : n = xs.length := by simpa using h1.symm
  subst hn
  rcases hb with rfl | ⟨x, v, rfl, hv⟩
  · obtain rfl : xs = [] := List.eq_nil_of_length_eq_zero (by omega)
    exact .inl ⟨⟨ao, rfl⟩, rfl⟩
  · obtain ⟨C, E, fr, hg, hs, hC⟩ := block_of_cell hv
    obtain ⟨g, off, sp⟩ := x
    simp only at hs hg hC
    subst hs
    have ho : off < C.size := (Array.getElem?_eq_some_iff.1 hC).1
    refine .inr ⟨g, off, cap, C, E, fr, rfl, hg, xs.map bv, C.toList.drop (off + xs.length), ?_, rows_bv xs, by omega, h2, h3⟩
    have : (C.toList.drop off).take xs.length = xs.map bv := by
      apply List.ext_getElem?
      intro j
      rw [List.getElem?_take]
      split
      · rename_i hj
        have hj2 : (xs.map bv)[j]? = some (xs.map bv)[j] := by simp [hj]
        have h6 := h5.2 _ rfl j _ hj2
        obtain ⟨C', E', fr', k1, _, k3⟩ := block_of_cell h6
        rw [Addr.add_lit] at k1 k3
        simp only at k1 k3
        rw [hg] at k1
        obtain ⟨rfl, rfl, rfl⟩ : C = C' ∧ E = E' ∧ fr = fr' := by simpa using k1
        rw [hj2, List.getElem?_drop, Array.getElem?_toList, k3]
      · rename_i hj
        rw [List.getElem?_eq_none (by simp; omega)]
    rw [← this, ← List.drop_drop, List.take_append_drop]
/-- A row of bytes that came in. -/
theorem IV.of_row {w : World} {a : Option Addr} {len cap : Nat} {zs : List Int}
    (h : (a = none ∧ len = 0 ∧ cap = 0 ∧ zs = []) ∨ ∃ x, a = some x ∧ len ≤ cap ∧ cap ≤ maxLen ∧ zs.length = cap ∧ (∀ i, i < zs.length → w.cell? (x.add i) = some (.int .u8 (zs.getD i 0))) ∧ ∀ n ∈ zs, (Lit.int .u8 n).wf = true) :
    ∃ b : List UInt8, IV (whole w) (.slice a len cap) b := by
  obtain ⟨b, hb⟩ := reads_of_row h
  refine ⟨b, IV.of_reads hb ?_⟩
  rcases h with ⟨_, _, h, _⟩ | ⟨x, hx, _, _, hz, hc, _⟩
  · exact .inl h
  · rcases Nat.eq_zero_or_pos cap with h0 | h0
    · exact .inl h0
    · have e : x.add 0 = x := by cases x; simp [Addr.add]
      refine .inr ⟨x, .int .u8 (zs.getD 0 0), hx, ?_⟩
      rw [← e]; exact hc 0 (by omega)
end Go.Proofs.Ytcfapdamgbbklaa
