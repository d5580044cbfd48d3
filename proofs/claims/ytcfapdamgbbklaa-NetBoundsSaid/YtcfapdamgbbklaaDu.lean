/- Plain words of the printed functions: numbers as Go has them, elements and pieces of lists. -/
import GoSem.Core.View
import Derived.Laws.Entries
namespace Go.Proofs.Ytcfapdamgbbklaa

/-- A whole number as an int holds it. -/
abbrev w64 (n : Int) : Int := IntKind.i64.wrap n

/-- How many bytes a slice may grow to. -/
abbrev fits (n k : Nat) : Prop := n * k ≤ 140737488355328

/-- Element i of a list, i a whole number. -/
def idx {α : Type} (xs : List α) (i : Int) : Option α := if 0 ≤ i then xs[i.toNat]? else none
theorem idx_some {α : Type} {xs : List α} {i : Int} {x : α} (h : idx xs i = some x) : 0 ≤ i ∧ i.toNat < xs.length ∧ xs[i.toNat]? = some x := by
  unfold idx at h
  split at h
  · rename_i h0; exact ⟨h0, (List.getElem?_eq_some_iff.1 h).1, h⟩
  · cases h
/-- A piece of a list. -/
def cut {α : Type} (xs : List α) (lo hi : Int) : Option (List α) := if 0 ≤ lo ∧ lo ≤ hi ∧ hi ≤ xs.length then some ((xs.take hi.toNat).drop lo.toNat) else none
theorem cut_some {α : Type} {xs ys : List α} {lo hi : Int} (h : cut xs lo hi = some ys) : 0 ≤ lo ∧ lo ≤ hi ∧ hi ≤ xs.length ∧ ys = (xs.take hi.toNat).drop lo.toNat := by
  unfold cut at h
  split at h
  · rename_i k; exact ⟨k.1, k.2.1, k.2.2, (Option.some.inj h).symm⟩
  · cases h
/-- Element i becomes another one. -/
def put {α : Type} (xs : List α) (i : Int) (y : α) : Option (List α) := if 0 ≤ i ∧ i < xs.length then some (xs.set i.toNat y) else none
theorem put_some {α : Type} {xs ys : List α} {i : Int} {y : α} (h : put xs i y = some ys) : 0 ≤ i ∧ i.toNat < xs.length ∧ ys = xs.set i.toNat y := by
  unfold put at h
  split at h
  · rename_i k; exact ⟨k.1, by omega, (Option.some.inj h).symm⟩
  · cases h

def u8of' (n : Int) : UInt8 := UInt8.ofNat (n % 256).toNat
theorem u8of_wrap' (n : Int) : IntKind.u8.wrap n = ((u8of' n).toNat : Int) := by
  unfold u8of'
  rw [UInt8.toNat_ofNat']
  simp only [IntKind.wrap, IntKind.bits, IntKind.signed]
  simp
  omega
/-- Shifts of an int. -/
def sr64 (a b : Int) : Int := a.fdiv (2 ^ min b.toNat 64)
def sl64 (a b : Int) : Int := w64 (a * 2 ^ min b.toNat 64)
def sr8 (a : UInt8) (b : Int) : UInt8 := UInt8.ofNat (a.toNat / 2 ^ min b.toNat 8)
def sl8 (a : UInt8) (b : Int) : UInt8 := u8of' (a.toNat * 2 ^ min b.toNat 8)
def bit64 (op : BinOp) (a b : Int) : Int := bits op .i64 a b
theorem sr8_val (a : UInt8) (b : Int) : (a.toNat : Int).fdiv (2 ^ min b.toNat 8) = ((sr8 a b).toNat : Int) := by
  unfold sr8
  have h1 : (a.toNat : Int).fdiv (2 ^ min b.toNat 8) = ((a.toNat / 2 ^ min b.toNat 8 : Nat) : Int) := by
    rw [Int.fdiv_eq_ediv_of_nonneg _ (by exact_mod_cast Nat.zero_le (2 ^ min b.toNat 8))]
    push_cast
    rfl
  rw [h1, UInt8.toNat_ofNat', Nat.mod_eq_of_lt]
  have := a.toNat_lt
  exact Nat.lt_of_le_of_lt (Nat.div_le_self _ _) this
/-- A number becomes another kind's. -/
def u64of (n : Int) : UInt64 := UInt64.ofNat (n % 18446744073709551616).toNat
theorem u64of_wrap (n : Int) : IntKind.u64.wrap n = ((u64of n).toNat : Int) := by
  unfold u64of
  rw [UInt64.toNat_ofNat']
  simp only [IntKind.wrap, IntKind.bits, IntKind.signed]
  simp
  omega
def u8of (n : Int) : UInt8 := UInt8.ofNat (n % 256).toNat
theorem u8of_wrap (n : Int) : IntKind.u8.wrap n = ((u8of n).toNat : Int) := by
  unfold u8of
  rw [UInt8.toNat_ofNat']
  simp only [IntKind.wrap, IntKind.bits, IntKind.signed]
  simp
  omega
/-- How many rounds a loop may go. -/
def bigN : Nat := 4611686018427387904
end Go.Proofs.Ytcfapdamgbbklaa
