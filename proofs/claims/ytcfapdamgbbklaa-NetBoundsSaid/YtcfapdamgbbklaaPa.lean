/- The cyclic sum as plain functions on lists of bytes. -/
namespace Go.Proofs.Ytcfapdamgbbklaa

/-- One digit. -/
def bstep (s : UInt32) : UInt32 := if s % 2 = 1 then (s / 2) ^^^ 3988292384 else s / 2
/-- So many digits. -/
def bsteps : Nat → UInt32 → UInt32
  | 0, s => s
  | k + 1, s => bstep (bsteps k s)
def tab : List UInt32 := (List.range 256).map fun n => bsteps 8 (UInt32.ofNat n)
def cstep (s : UInt32) (c : UInt8) : UInt32 := (s >>> 8) ^^^ tab.getD (s.toUInt8 ^^^ c).toNat 0
def creg (s : UInt32) (b : List UInt8) : UInt32 := b.foldl cstep s
def crc (b : List UInt8) : UInt32 := ~~~ (creg 4294967295 b)
def le4 (s : UInt32) : List UInt8 := [s.toUInt8, (s >>> 8).toUInt8, (s >>> 16).toUInt8, (s >>> 24).toUInt8]
def sealL (b : List UInt8) : List UInt8 := b ++ le4 (crc b)
def openB (b : List UInt8) : Bool := decide (4 ≤ b.length) && (le4 (crc (b.take (b.length - 4))) == b.drop (b.length - 4))
/-- Digit k of a list of bytes turned. -/
def flipBit (b : List UInt8) (k : Nat) : List UInt8 := b.set (k / 8) (b.getD (k / 8) 0 ^^^ (1 <<< (UInt8.ofNat (k % 8))))
/-- The first n digits of a mask, from a place on, turned. -/
def spoilTo (b : List UInt8) (bit : Int) (mask : UInt32) : Nat → List UInt8
  | 0 => b
  | n + 1 => if 0 ≤ bit + n ∧ bit + n < 8 * b.length ∧ mask.toNat.testBit n = true then flipBit (spoilTo b bit mask n) (bit + n).toNat else spoilTo b bit mask n
def spoilL (b : List UInt8) (bit : Int) (mask : UInt32) : List UInt8 := spoilTo b bit mask 32

theorem bstep_toNat (s : UInt32) : (bstep s).toNat = if s.toNat % 2 = 1 then (s.toNat / 2) ^^^ 3988292384 else s.toNat / 2 := by
  unfold bstep
  have h : (s % 2 = 1) ↔ s.toNat % 2 = 1 := by
    rw [← UInt32.toNat_inj]; simp
  by_cases c : s % 2 = 1
  · rw [if_pos c, if_pos (h.1 c)]; simp
  · rw [if_neg c, if_neg (fun e => c (h.2 e))]; simp

theorem le4_length (s : UInt32) : (le4 s).length = 4 := rfl
theorem sealL_length (b : List UInt8) : (sealL b).length = b.length + 4 := by simp [sealL, le4_length]
theorem flipBit_length (b : List UInt8) (k : Nat) : (flipBit b k).length = b.length := by simp [flipBit]
theorem spoilTo_length (b : List UInt8) (bit : Int) (mask : UInt32) (n : Nat) : (spoilTo b bit mask n).length = b.length := by
  induction n with
  | zero => rfl
  | succ n ih => unfold spoilTo; split <;> simp [flipBit_length, ih]
theorem tab_length : tab.length = 256 := by simp [tab]
theorem tab_get (i : Nat) (h : i < 256) : tab.getD i 0 = bsteps 8 (UInt32.ofNat i) := by simp [tab, List.getD, h]
theorem creg_snoc (s : UInt32) (b : List UInt8) (k : Nat) (x : UInt8) (hx : b[k]? = some x) : creg s (b.take (k + 1)) = cstep (creg s (b.take k)) x := by
  obtain ⟨hk, rfl⟩ := List.getElem?_eq_some_iff.1 hx
  unfold creg; rw [List.take_succ_eq_append_getElem hk, List.foldl_append]; rfl
theorem cstep_toNat (s : UInt32) (c q : UInt8) (t : UInt32) (hq : (s.toUInt8 ^^^ c) = q) (ht : tab.getD q.toNat 0 = t) : cstep s c = (s >>> 8) ^^^ t := by
  unfold cstep; rw [hq, ht]

#print axioms cstep_toNat
end Go.Proofs.Ytcfapdamgbbklaa
