/- From what a row says of its arguments to what the walks ask. -/
import Derived.Test.YtcfapdamgbbklaaHa
import Derived.OpenShut
namespace Go.Proofs.Ytcfapdamgbbklaa
open Go.RowKit

theorem reads_of_row {w : World} {a : Option Addr} {len cap : Nat} {zs : List Int}
    (h : (a = none ∧ len = 0 ∧ cap = 0 ∧ zs = []) ∨ ∃ x, a = some x ∧ len ≤ cap ∧ cap ≤ maxLen ∧ zs.length = cap ∧ (∀ i, i < zs.length → w.cell? (x.add i) = some (.int .u8 (zs.getD i 0))) ∧ ∀ n ∈ zs, (Lit.int .u8 n).wf = true) :
    ∃ b : List UInt8, Reads w a len cap (b.map bv) := by
  rcases h with ⟨rfl, rfl, rfl, rfl⟩ | ⟨x, rfl, hl, hm, hz, hc, hw⟩
  · exact ⟨[], rfl, Nat.le_refl _, by simp [maxLen], fun _ => rfl, fun _ => rfl, fun a ha => by cases ha⟩
  · have hbv : ∀ n ∈ zs, bv (UInt8.ofNat n.toNat) = .int .u8 n := fun n hn => by
      have hb := bounds_u8 (hw n hn)
      have : (UInt8.ofNat n.toNat).toNat = n.toNat := by rw [UInt8.toNat_ofNat']; omega
      simp only [bv, this]
      congr 1; omega
    refine ⟨(zs.take len).map fun n => UInt8.ofNat n.toNat, by simp; omega, hl, hm, fun e => (by cases e), fun e => (by cases e), fun a ha j u hj => ?_⟩
    obtain rfl := Option.some.inj ha
    rw [List.map_map, List.getElem?_map] at hj
    obtain ⟨n, hn, rfl⟩ := Option.map_eq_some_iff.1 hj
    rw [List.getElem?_take] at hn
    split at hn
    · obtain ⟨hjl, he⟩ := List.getElem?_eq_some_iff.1 hn
      rw [hc j hjl]
      have hmem : n ∈ zs := by rw [← he]; exact List.getElem_mem hjl
      simp only [Function.comp_apply]
      rw [hbv n hmem]
      simp [List.getD, hn]
    · cases hn
theorem u32_of_wf {a : Int} (h : (Lit.int .u32 a).wf = true) : ∃ x : UInt32, a = (x.toNat : Int) := by
  have hb := bounds_u32 h
  refine ⟨UInt32.ofNat a.toNat, ?_⟩
  rw [UInt32.toNat_ofNat', Nat.mod_eq_of_lt (by omega)]; omega
#print axioms reads_of_row
end Go.Proofs.Ytcfapdamgbbklaa
