/- Printed by a program of this session: plain functions of the Go functions. -/
import Derived.Test.YtgobccnphhljcaaDt
import Derived.Test.YtgobccnphhljcaaDu
namespace Go.Proofs.Ytgobccnphhljcaa
set_option linter.unusedVariables false
def haulierkeep_Copy_byte (p0 : List UInt8) : Option ((List UInt8)) :=
if fits (([] : List UInt8).length + p0.length) 1 ∧ ([] : List UInt8).length + p0.length ≤ 140737488355328 then
some (([] : List UInt8) ++ p0)
else none
def haulierkeep_Cut_byte (p0 : List UInt8) (p1 : Int) : Option ((List UInt8)) :=
(some (if p1 < (p0.length : Int) then p1 else (p0.length : Int))).bind fun x1 =>
(cut p0 0 x1).bind fun y3 =>
(haulierkeep_Copy_byte y3).bind fun x8 =>
some x8
def haulierkeep_Same_byte_l0 (p0 : List UInt8) (p1 : List UInt8) : Nat → Int → Option (Bool)
| 0, _ => none
| k0 + 1, x2 =>
if x2 < (p0.length : Int) then
(idx p0 x2).bind fun z23 =>
(idx p1 x2).bind fun z29 =>
if (z23.toNat : Int) ≠ (z29.toNat : Int) then
some false
else
haulierkeep_Same_byte_l0 p0 p1 k0 (w64 (x2 + 1))
else
some true
def haulierkeep_Same_byte (p0 : List UInt8) (p1 : List UInt8) : Option (Bool) :=
if (p0.length : Int) ≠ (p1.length : Int) then
some false
else
haulierkeep_Same_byte_l0 p0 p1 bigN 0
def haulierkeep_Within (p0 : Int) (p1 : Int) : Option (Int) :=
if p1 < 1 then
some 0
else
if ¬ p1 = 0 then
if ((p0).tmod p1) < 0 then
some (w64 (((p0).tmod p1) + p1))
else
some ((p0).tmod p1)
else none
def packet_upto (p0 : Int) (p1 : Int) : Option (Bool) :=
if 0 ≤ p0 then
some (decide (p0 ≤ p1))
else
some false
def packet_fields (p0 : api_Packet) : Option (Bool) :=
if p0.Kind = 2 then
(packet_upto p0.Of 65535).bind fun x4 =>
some x4
else
if p0.Kind = 3 then
(packet_upto p0.From 4096).bind fun x10 =>
if x10 = true then
if (p0.Data.length : Int) ≤ 64 then
some (decide ((p0.Data.length : Int) ≤ (w64 (4096 - p0.From))))
else
some false
else
some false
else
if p0.Kind = 4 then
(packet_upto p0.Of 65535).bind fun x18 =>
if x18 = true then
(packet_upto p0.Seen 4097).bind fun x24 =>
if x24 = true then
(packet_upto p0.Limit 4496).bind fun x30 =>
some x30
else
some false
else
some false
else
some (decide (p0.Kind = 1))
def packet_bare (p0 : api_Packet) : Option (api_Packet) :=
if p0.Kind = 2 then
some (⟨p0.Kind, p0.Path, p0.Number, p0.Of, 0, ([] : List UInt8), false, 0, 0⟩ : api_Packet)
else
if p0.Kind = 3 then
some (⟨p0.Kind, p0.Path, p0.Number, 0, p0.From, p0.Data, p0.Fin, 0, 0⟩ : api_Packet)
else
if p0.Kind = 4 then
some (⟨p0.Kind, p0.Path, p0.Number, p0.Of, 0, ([] : List UInt8), false, p0.Seen, p0.Limit⟩ : api_Packet)
else
some (⟨p0.Kind, p0.Path, p0.Number, 0, 0, ([] : List UInt8), false, 0, 0⟩ : api_Packet)
def packet_Same (p0 : api_Packet) (p1 : api_Packet) : Option (Bool) :=
((if p0.Kind = p1.Kind then
if p0.Path = p1.Path then
if p0.Number = p1.Number then
if p0.Of = p1.Of then
some (decide (p0.From = p1.From))
else
some false
else
some false
else
some false
else
some false : Option (Bool))).bind fun x13 =>
if x13 = true then
(bytes_Equal p0.Data p1.Data).bind fun x22 =>
if x22 = true then
if (p0.Fin == p1.Fin) = true then
if p0.Seen = p1.Seen then
some (decide (p0.Limit = p1.Limit))
else
some false
else
some false
else
some false
else
some false
def packet_Check (p0 : api_Packet) : Option (Int) :=
(packet_fields (⟨p0.Kind, p0.Path, p0.Number, p0.Of, p0.From, p0.Data, p0.Fin, p0.Seen, p0.Limit⟩ : api_Packet)).bind fun x3 =>
if x3 = true then
(packet_upto p0.Path 2).bind fun x9 =>
if x9 = true then
(packet_upto p0.Number 65535).bind fun x15 =>
if x15 = true then
(packet_bare (⟨p0.Kind, p0.Path, p0.Number, p0.Of, p0.From, p0.Data, p0.Fin, p0.Seen, p0.Limit⟩ : api_Packet)).bind fun x21 =>
(packet_Same (⟨p0.Kind, p0.Path, p0.Number, p0.Of, p0.From, p0.Data, p0.Fin, p0.Seen, p0.Limit⟩ : api_Packet) (⟨x21.Kind, x21.Path, x21.Number, x21.Of, x21.From, x21.Data, x21.Fin, x21.Seen, x21.Limit⟩ : api_Packet)).bind fun x29 =>
if x29 = true then
some 0
else
some 1
else
some 1
else
some 1
else
some 1
def vint_Size (p0 : Int) : Option (Int) :=
if p0 < 0 then
some 0
else
if 4611686018427387903 < p0 then
some 0
else
if p0 < 64 then
some 1
else
if p0 < 16384 then
some 2
else
if p0 < 1073741824 then
some 4
else
some 8
def vint_mark (p0 : Int) : Option (UInt8) :=
if p0 = 2 then
some (64 : UInt8)
else
if p0 = 4 then
some (128 : UInt8)
else
if p0 = 8 then
some (192 : UInt8)
else
some (0 : UInt8)
def vint_Put_l0 (p0 : Int) (x1 : Int) : Nat → (List UInt8) → Int → Option ((List UInt8))
| 0, _, _ => none
| k0 + 1, x7, x10 =>
if 0 ≤ x10 then
if 0 ≤ (w64 (8 * x10)) then
if fits (x7.length + ([(u8of (sr64 p0 (w64 (8 * x10))))] : List UInt8).length) 1 ∧ x7.length + ([(u8of (sr64 p0 (w64 (8 * x10))))] : List UInt8).length ≤ 140737488355328 then
(some (x7 ++ ([(u8of (sr64 p0 (w64 (8 * x10))))] : List UInt8) : List UInt8)).bind fun x32 =>
vint_Put_l0 p0 x1 k0 x32 (w64 (x10 - 1))
else none
else none
else
if 0 < x1 then
if (0 : Int) ≤ 0 ∧ 0 < (x7.length : Int) then
(x7[(0 : Int).toNat]?).bind fun z40 =>
(vint_mark x1).bind fun x42 =>
if (0 : Int) ≤ 0 ∧ 0 < (x7.length : Int) then
(some (x7.set (0 : Int).toNat (z40 ||| x42))).bind fun x50 =>
some x50
else none
else none
else
some x7
def vint_Put (p0 : Int) : Option ((List UInt8)) :=
(vint_Size p0).bind fun x1 =>
vint_Put_l0 p0 x1 bigN ([] : List UInt8) (w64 (x1 - 1))
def slices_Concat_sbyte_byte_l0 (p0 : List (List UInt8)) : Nat → Int → Int → Option (Int)
| 0, _, _ => none
| k0 + 1, x28, x29 =>
if x29 < (p0.length : Int) then
(idx p0 x29).bind fun z44 =>
if (w64 (x28 + (z44.length : Int))) < 0 then
none
else
slices_Concat_sbyte_byte_l0 p0 k0 (w64 (x28 + (z44.length : Int))) (w64 (x29 + 1))
else
some x28
def slices_Concat_sbyte_byte_l1 (p0 : List (List UInt8)) : Nat → (List UInt8) → Int → Option ((List UInt8))
| 0, _, _ => none
| k1 + 1, x63, x66 =>
if x66 < (p0.length : Int) then
(idx p0 x66).bind fun z83 =>
if fits (x63.length + z83.length) 1 ∧ x63.length + z83.length ≤ 140737488355328 then
slices_Concat_sbyte_byte_l1 p0 k1 (x63 ++ z83) (w64 (x66 + 1))
else none
else
some x63
def slices_Concat_sbyte_byte (p0 : List (List UInt8)) : Option ((List UInt8)) :=
((slices_Concat_sbyte_byte_l0 p0 bigN 0 0 : Option (Int))).bind fun x26 =>
(slices_Grow_sbyte_byte ([] : List UInt8) x26).bind fun x55 =>
slices_Concat_sbyte_byte_l1 p0 bigN x55 0
def span_Pack (p0 : List UInt8) : Option ((List UInt8)) :=
(vint_Put (p0.length : Int)).bind fun x1 =>
(slices_Concat_sbyte_byte ([x1, p0] : List (List UInt8))).bind fun x18 =>
some x18
def packet_truth (p0 : Bool) : Option (UInt8) :=
if p0 = true then
some (1 : UInt8)
else
some (0 : UInt8)
def packet_Plain (p0 : api_Packet) : Option ((List UInt8) × Int) :=
(packet_Check (⟨p0.Kind, p0.Path, p0.Number, p0.Of, p0.From, p0.Data, p0.Fin, p0.Seen, p0.Limit⟩ : api_Packet)).bind fun x3 =>
if x3 ≠ 0 then
some (([] : List UInt8), x3)
else
(vint_Put p0.Path).bind fun x13 =>
(vint_Put p0.Number).bind fun x21 =>
(some ([([(u8of p0.Kind)] : List UInt8), x13, x21] : List (List UInt8))).bind fun x41 =>
(slices_Concat_sbyte_byte x41).bind fun x46 =>
if p0.Kind = 2 then
(vint_Put p0.Of).bind fun x60 =>
if fits (x46.length + x60.length) 1 ∧ x46.length + x60.length ≤ 140737488355328 then
some ((x46 ++ x60), 0)
else none
else
if p0.Kind = 3 then
(vint_Put p0.From).bind fun x72 =>
(span_Pack p0.Data).bind fun x80 =>
(slices_Concat_sbyte_byte ([x46, x72, x80] : List (List UInt8))).bind fun x103 =>
(packet_truth p0.Fin).bind fun x111 =>
if fits (x103.length + ([x111] : List UInt8).length) 1 ∧ x103.length + ([x111] : List UInt8).length ≤ 140737488355328 then
some ((x103 ++ ([x111] : List UInt8)), 0)
else none
else
if p0.Kind = 4 then
(vint_Put p0.Of).bind fun x128 =>
(vint_Put p0.Seen).bind fun x136 =>
(vint_Put p0.Limit).bind fun x144 =>
(slices_Concat_sbyte_byte ([x46, x128, x136, x144] : List (List UInt8))).bind fun x170 =>
some (x170, 0)
else
some (x46, 0)
def packet_Pack (p0 : api_Packet) : Option ((List UInt8) × Int) :=
(packet_Plain (⟨p0.Kind, p0.Path, p0.Number, p0.Of, p0.From, p0.Data, p0.Fin, p0.Seen, p0.Limit⟩ : api_Packet)).bind fun (x3, x4) =>
if x4 ≠ 0 then
some (([] : List UInt8), x4)
else
(sum_Seal x3).bind fun x17 =>
some (x17, 0)
def haulierlaw06_wakes : Option (Bool) :=
(packet_Plain (⟨1, 1, 2, 0, 0, ([] : List UInt8), false, 0, 0⟩ : api_Packet)).bind fun (x1, x2) =>
(packet_Pack (⟨1, 1, 2, 0, 0, ([] : List UInt8), false, 0, 0⟩ : api_Packet)).bind fun (x10, x11) =>
if x2 = 0 then
if x11 = 0 then
(haulierkeep_Same_byte x1 ([(1 : UInt8), (1 : UInt8), (2 : UInt8)] : List UInt8)).bind fun x30 =>
if x30 = true then
some (decide ((x10.length : Int) = 7))
else
some false
else
some false
else
some false
def haulierlaw06_PacketErrors_l0 (x28 : List api_Packet) : Nat → Int → Option (Bool)
| 0, _ => none
| k0 + 1, x30 =>
if x30 < (x28.length : Int) then
if (0 : Int) ≤ x30 ∧ x30 < (x28.length : Int) then
(x28[(x30 : Int).toNat]?).bind fun z81 =>
(packet_Pack (⟨z81.Kind, z81.Path, z81.Number, z81.Of, z81.From, z81.Data, z81.Fin, z81.Seen, z81.Limit⟩ : api_Packet)).bind fun (x88, x89) =>
(packet_Plain (⟨z81.Kind, z81.Path, z81.Number, z81.Of, z81.From, z81.Data, z81.Fin, z81.Seen, z81.Limit⟩ : api_Packet)).bind fun (x97, x98) =>
(packet_Check (⟨z81.Kind, z81.Path, z81.Number, z81.Of, z81.From, z81.Data, z81.Fin, z81.Seen, z81.Limit⟩ : api_Packet)).bind fun x106 =>
if x106 ≠ 1 then
some false
else
if x89 ≠ 1 then
some false
else
if x98 ≠ 1 then
some false
else
if (x88.length : Int) ≠ 0 then
some false
else
if (x97.length : Int) ≠ 0 then
some false
else
haulierlaw06_PacketErrors_l0 x28 k0 (w64 (x30 + 1))
else none
else
(packet_Check (⟨3, 0, 0, 0, 4096, ([] : List UInt8), true, 0, 0⟩ : api_Packet)).bind fun x116 =>
if x116 = 0 then
(packet_Check (⟨4, 0, 0, 0, 0, ([] : List UInt8), false, 4097, 4496⟩ : api_Packet)).bind fun x122 =>
if x122 = 0 then
(haulierlaw06_wakes).bind fun x128 =>
some x128
else
some false
else
some false
def haulierlaw06_PacketErrors (p0 : Int) : Option (Bool) :=
(haulierkeep_Within p0 1000).bind fun x1 =>
if (0 : Int) ≤ 65 ∧ fits (65 : Int).toNat 1 ∧ 65 ≤ (140737488355328 : Int) then
(some ([(⟨0, 0, 0, 0, 0, ([] : List UInt8), false, 0, 0⟩ : api_Packet), (⟨5, 0, 0, 0, 0, ([] : List UInt8), false, 0, 0⟩ : api_Packet), (⟨w64 (0 - (w64 (1 + x1))), 0, 0, 0, 0, ([] : List UInt8), false, 0, 0⟩ : api_Packet), (⟨1, 3, 0, 0, 0, ([] : List UInt8), false, 0, 0⟩ : api_Packet), (⟨1, w64 (0 - (w64 (1 + x1))), 0, 0, 0, ([] : List UInt8), false, 0, 0⟩ : api_Packet), (⟨1, 0, w64 (65535 + (w64 (1 + x1))), 0, 0, ([] : List UInt8), false, 0, 0⟩ : api_Packet), (⟨1, 0, w64 (0 - (w64 (1 + x1))), 0, 0, ([] : List UInt8), false, 0, 0⟩ : api_Packet), (⟨1, 0, 0, w64 (1 + x1), 0, ([] : List UInt8), false, 0, 0⟩ : api_Packet), (⟨1, 0, 0, 0, w64 (1 + x1), ([] : List UInt8), false, 0, 0⟩ : api_Packet), (⟨1, 0, 0, 0, 0, ([(1 : UInt8)] : List UInt8), false, 0, 0⟩ : api_Packet), (⟨1, 0, 0, 0, 0, ([] : List UInt8), true, 0, 0⟩ : api_Packet), (⟨1, 0, 0, 0, 0, ([] : List UInt8), false, w64 (1 + x1), 0⟩ : api_Packet), (⟨1, 0, 0, 0, 0, ([] : List UInt8), false, 0, w64 (1 + x1)⟩ : api_Packet), (⟨2, 0, 0, w64 (0 - (w64 (1 + x1))), 0, ([] : List UInt8), false, 0, 0⟩ : api_Packet), (⟨2, 0, 0, w64 (65535 + (w64 (1 + x1))), 0, ([] : List UInt8), false, 0, 0⟩ : api_Packet), (⟨2, 0, 0, 0, 0, ([] : List UInt8), false, w64 (1 + x1), 0⟩ : api_Packet), (⟨3, 0, 0, w64 (1 + x1), 0, ([] : List UInt8), false, 0, 0⟩ : api_Packet), (⟨3, 0, 0, 0, w64 (0 - (w64 (1 + x1))), ([] : List UInt8), false, 0, 0⟩ : api_Packet), (⟨3, 0, 0, 0, w64 (4096 + (w64 (1 + x1))), ([] : List UInt8), false, 0, 0⟩ : api_Packet), (⟨3, 0, 0, 0, 4096, ([(1 : UInt8)] : List UInt8), false, 0, 0⟩ : api_Packet), (⟨3, 0, 0, 0, 0, (List.replicate (65 : Int).toNat (0 : UInt8)), false, 0, 0⟩ : api_Packet), (⟨3, 0, 0, 0, 0, ([] : List UInt8), false, 0, w64 (1 + x1)⟩ : api_Packet), (⟨4, 0, 0, 0, w64 (1 + x1), ([] : List UInt8), false, 0, 0⟩ : api_Packet), (⟨4, 0, 0, 0, 0, ([] : List UInt8), false, w64 (0 - (w64 (1 + x1))), 0⟩ : api_Packet), (⟨4, 0, 0, 0, 0, ([] : List UInt8), false, w64 (4097 + (w64 (1 + x1))), 0⟩ : api_Packet), (⟨4, 0, 0, 0, 0, ([] : List UInt8), false, 0, w64 (0 - (w64 (1 + x1)))⟩ : api_Packet), (⟨4, 0, 0, 0, 0, ([] : List UInt8), false, 0, w64 (4496 + (w64 (1 + x1)))⟩ : api_Packet), (⟨4, 0, 0, 0, 0, ([] : List UInt8), true, 0, 0⟩ : api_Packet)] : List api_Packet)).bind fun x28 =>
haulierlaw06_PacketErrors_l0 x28 bigN 0
else none
def haulierplay_Cut (p0 : api_Packet) : Option (api_Packet) :=
(haulierkeep_Cut_byte p0.Data 80).bind fun x5 =>
some (⟨p0.Kind, p0.Path, p0.Number, p0.Of, p0.From, x5, p0.Fin, p0.Seen, p0.Limit⟩ : api_Packet)
def haulierplay_Packet (p0 : api_Packet) (p1 : Int) : Option (api_Packet) :=
(haulierkeep_Within p0.Kind 4).bind fun x5 =>
(haulierkeep_Within p0.Path 3).bind fun x10 =>
(haulierkeep_Within p0.Number 300).bind fun x15 =>
((if (w64 (1 + x5)) = 2 then
(haulierkeep_Within p0.Of 300).bind fun x83 =>
some (x83, 0, ([] : List UInt8), false, 0, 0)
else
if (w64 (1 + x5)) = 3 then
(haulierkeep_Within p0.From 200).bind fun x89 =>
(haulierkeep_Cut_byte p0.Data 20).bind fun x94 =>
some (0, x89, x94, p0.Fin, 0, 0)
else
if (w64 (1 + x5)) = 4 then
(haulierkeep_Within p0.Of 300).bind fun x112 =>
(haulierkeep_Within p0.Seen 300).bind fun x117 =>
(haulierkeep_Within p0.Limit 400).bind fun x122 =>
some (x112, 0, ([] : List UInt8), false, x117, x122)
else
some (0, 0, ([] : List UInt8), false, 0, 0) : Option (Int × Int × (List UInt8) × Bool × Int × Int))).bind fun (x72, x73, x74, x78, x79, x80) =>
(haulierkeep_Within p1 40).bind fun x131 =>
if x131 = 29 then
(haulierplay_Cut (⟨p0.Kind, p0.Path, p0.Number, p0.Of, p0.From, p0.Data, p0.Fin, p0.Seen, p0.Limit⟩ : api_Packet)).bind fun x137 =>
some (⟨x137.Kind, x137.Path, x137.Number, x137.Of, x137.From, x137.Data, x137.Fin, x137.Seen, x137.Limit⟩ : api_Packet)
else
if x131 = 30 then
some (⟨p0.Kind, x10, x15, x72, x73, x74, x78, x79, x80⟩ : api_Packet)
else
if x131 = 31 then
some (⟨w64 (1 + x5), p0.Path, x15, x72, x73, x74, x78, x79, x80⟩ : api_Packet)
else
if x131 = 32 then
some (⟨w64 (1 + x5), x10, p0.Number, x72, x73, x74, x78, x79, x80⟩ : api_Packet)
else
if x131 = 33 then
some (⟨w64 (1 + x5), x10, x15, p0.Of, x73, x74, x78, x79, x80⟩ : api_Packet)
else
if x131 = 34 then
some (⟨w64 (1 + x5), x10, x15, x72, p0.From, x74, x78, x79, x80⟩ : api_Packet)
else
if x131 = 35 then
(haulierkeep_Cut_byte p0.Data 70).bind fun x151 =>
some (⟨w64 (1 + x5), x10, x15, x72, x73, x151, x78, x79, x80⟩ : api_Packet)
else
if x131 = 36 then
some (⟨w64 (1 + x5), x10, x15, x72, x73, x74, true, x79, x80⟩ : api_Packet)
else
if x131 = 37 then
some (⟨w64 (1 + x5), x10, x15, x72, x73, x74, x78, p0.Seen, x80⟩ : api_Packet)
else
if x131 = 38 then
some (⟨w64 (1 + x5), x10, x15, x72, x73, x74, x78, x79, p0.Limit⟩ : api_Packet)
else
if x131 = 39 then
(haulierkeep_Within p0.From 4098).bind fun x166 =>
(haulierkeep_Within p0.Number 65537).bind fun x171 =>
some (⟨w64 (1 + x5), x10, x171, x72, x166, x74, x78, x79, x80⟩ : api_Packet)
else
some (⟨w64 (1 + x5), x10, x15, x72, x73, x74, x78, x79, x80⟩ : api_Packet)
def haulierref01_between (p0 : Int) (p1 : Int) (p2 : Int) : Option (Bool) :=
if p1 ≤ p0 then
some (decide (p0 ≤ p2))
else
some false
def haulierref01_Right (p0 : api_Packet) : Option (Bool) :=
(((haulierref01_between p0.Kind 1 4).bind fun x39 =>
if x39 = true then
(haulierref01_between p0.Path 0 2).bind fun x45 =>
if x45 = true then
(haulierref01_between p0.Number 0 65535).bind fun x51 =>
some (!x51)
else
some true
else
some true : Option (Bool))).bind fun x37 =>
if x37 = true then
some false
else
((if p0.Kind = 2 then
some (true, (decide (p0.Kind = 3)), (decide (p0.Kind = 4)))
else
some ((decide (p0.Kind = 4)), (decide (p0.Kind = 3)), (decide (p0.Kind = 4))) : Option (Bool × Bool × Bool))).bind fun (x69, x70, x71) =>
((if x69 = true then
(haulierref01_between p0.Of 0 65535).bind fun x101 =>
if x101 = true then
if x69 = true then
some false
else
some (decide (p0.Of ≠ 0))
else
some true
else
if x69 = true then
some false
else
some (decide (p0.Of ≠ 0)) : Option (Bool))).bind fun x98 =>
if x98 = true then
some false
else
((if x70 = true then
(haulierref01_between p0.From 0 4096).bind fun x149 =>
if x149 = true then
if 64 < (p0.Data.length : Int) then
some true
else
(some (w64 (p0.From + (p0.Data.length : Int)))).bind fun x156 =>
if 4096 < x156 then
some true
else
if x70 = true then
some false
else
if p0.From ≠ 0 then
some true
else
if 0 < (p0.Data.length : Int) then
some true
else
some p0.Fin
else
some true
else
if x70 = true then
some false
else
if p0.From ≠ 0 then
some true
else
if 0 < (p0.Data.length : Int) then
some true
else
some p0.Fin : Option (Bool))).bind fun x146 =>
if x146 = true then
some false
else
if x71 = true then
(haulierref01_between p0.Seen 0 4097).bind fun x169 =>
if x169 = true then
(haulierref01_between p0.Limit 0 4496).bind fun x175 =>
if x175 = true then
some true
else
if x71 = true then
some false
else
if p0.Seen = 0 then
some (decide (p0.Limit = 0))
else
some false
else
if x71 = true then
some false
else
if p0.Seen = 0 then
some (decide (p0.Limit = 0))
else
some false
else
if x71 = true then
some false
else
if p0.Seen = 0 then
some (decide (p0.Limit = 0))
else
some false
def haulierref01_Size (p0 : Int) : Option (Int) :=
if p0 < 0 then
some 0
else
if 4611686018427387903 < p0 then
some 0
else
if p0 < 64 then
some 1
else
if p0 < 16384 then
some 2
else
if p0 < 1073741824 then
some 4
else
some 8
def haulierref01_Put_l0 (p0 : Int) : Nat → (List UInt8) → Int → Option ((List UInt8))
| 0, _, _ => none
| k0 + 1, x39, x42 =>
if 0 ≤ x42 then
(some (sr64 p0 ((u64of (w64 (8 * x42))).toNat : Int))).bind fun x56 =>
if fits (x39.length + ([(u8of x56)] : List UInt8).length) 1 ∧ x39.length + ([(u8of x56)] : List UInt8).length ≤ 140737488355328 then
haulierref01_Put_l0 p0 k0 (x39 ++ ([(u8of x56)] : List UInt8)) (w64 (x42 - 1))
else none
else
some x39
def haulierref01_Put (p0 : Int) : Option ((List UInt8)) :=
(haulierref01_Size p0).bind fun x1 =>
((haulierref01_Put_l0 p0 bigN ([] : List UInt8) (w64 (x1 - 1)) : Option ((List UInt8)))).bind fun x32 =>
if 0 < x1 then
if (0 : Int) ≤ 0 ∧ 0 < (x32.length : Int) then
(x32[(0 : Int).toNat]?).bind fun z72 =>
(idx ([0, 0, 1, 0, 2, 0, 0, 0, 3] : List Int) x1).bind fun z80 =>
if (0 : Int) ≤ 0 ∧ 0 < (x32.length : Int) then
(some (x32.set (0 : Int).toNat (z72 ||| (u8of (sl64 z80 6))))).bind fun x89 =>
some x89
else none
else none
else
some x32
def haulierref01_Wrap (p0 : List UInt8) : Option ((List UInt8)) :=
(haulierref01_Put (p0.length : Int)).bind fun x1 =>
if fits (x1.length + p0.length) 1 ∧ x1.length + p0.length ≤ 140737488355328 then
some (x1 ++ p0)
else none
def haulierref01_Plain (p0 : api_Packet) : Option ((List UInt8) × Bool) :=
(haulierref01_Right (⟨p0.Kind, p0.Path, p0.Number, p0.Of, p0.From, p0.Data, p0.Fin, p0.Seen, p0.Limit⟩ : api_Packet)).bind fun x3 =>
if x3 = true then
(haulierref01_Put p0.Path).bind fun x12 =>
if fits (([(u8of p0.Kind)] : List UInt8).length + x12.length) 1 ∧ ([(u8of p0.Kind)] : List UInt8).length + x12.length ≤ 140737488355328 then
(haulierref01_Put p0.Number).bind fun x23 =>
if fits ((([(u8of p0.Kind)] : List UInt8) ++ x12).length + x23.length) 1 ∧ (([(u8of p0.Kind)] : List UInt8) ++ x12).length + x23.length ≤ 140737488355328 then
(some ((([(u8of p0.Kind)] : List UInt8) ++ x12) ++ x23 : List UInt8)).bind fun x34 =>
if p0.Kind = 2 then
(haulierref01_Put p0.Of).bind fun x42 =>
if fits (x34.length + x42.length) 1 ∧ x34.length + x42.length ≤ 140737488355328 then
some ((x34 ++ x42), true)
else none
else
if p0.Kind = 3 then
((if p0.Fin = true then
some (1 : UInt8)
else
some (0 : UInt8) : Option (UInt8))).bind fun x55 =>
(haulierref01_Put p0.From).bind fun x60 =>
if fits (x34.length + x60.length) 1 ∧ x34.length + x60.length ≤ 140737488355328 then
(haulierref01_Wrap p0.Data).bind fun x74 =>
if fits ((x34 ++ x60).length + x74.length) 1 ∧ (x34 ++ x60).length + x74.length ≤ 140737488355328 then
if fits (((x34 ++ x60) ++ x74).length + ([x55] : List UInt8).length) 1 ∧ ((x34 ++ x60) ++ x74).length + ([x55] : List UInt8).length ≤ 140737488355328 then
(some (((x34 ++ x60) ++ x74) ++ ([x55] : List UInt8) : List UInt8)).bind fun x91 =>
some (x91, true)
else none
else none
else none
else
if p0.Kind = 4 then
(haulierref01_Put p0.Of).bind fun x99 =>
if fits (x34.length + x99.length) 1 ∧ x34.length + x99.length ≤ 140737488355328 then
(haulierref01_Put p0.Seen).bind fun x113 =>
if fits ((x34 ++ x99).length + x113.length) 1 ∧ (x34 ++ x99).length + x113.length ≤ 140737488355328 then
(haulierref01_Put p0.Limit).bind fun x124 =>
if fits (((x34 ++ x99) ++ x113).length + x124.length) 1 ∧ ((x34 ++ x99) ++ x113).length + x124.length ≤ 140737488355328 then
some ((((x34 ++ x99) ++ x113) ++ x124), true)
else none
else none
else none
else
some (x34, true)
else none
else none
else
some (([] : List UInt8), false)
def haulierref01_Pack (p0 : api_Packet) : Option ((List UInt8) × Bool) :=
(haulierref01_Plain (⟨p0.Kind, p0.Path, p0.Number, p0.Of, p0.From, p0.Data, p0.Fin, p0.Seen, p0.Limit⟩ : api_Packet)).bind fun (x3, x4) =>
if x4 = true then
(haulierref01_Seal x3).bind fun x16 =>
some (x16, true)
else
some (([] : List UInt8), false)
def haulierref01_Same (p0 : api_Packet) (p1 : api_Packet) : Option (Bool) :=
if p0.Kind = p1.Kind then
if p0.Path = p1.Path then
if p0.Number = p1.Number then
if p0.Of = p1.Of then
if p0.From = p1.From then
if (p0.Data == p1.Data) = true then
if (p0.Fin == p1.Fin) = true then
if p0.Seen = p1.Seen then
some (decide (p0.Limit = p1.Limit))
else
some false
else
some false
else
some false
else
some false
else
some false
else
some false
else
some false
else
some false
def haulierlaw06_PacketPacks (p0 : api_Packet) (p1 : api_Packet) (p2 : Int) (p3 : Int) : Option (Bool) :=
(haulierplay_Packet (⟨p0.Kind, p0.Path, p0.Number, p0.Of, p0.From, p0.Data, p0.Fin, p0.Seen, p0.Limit⟩ : api_Packet) p2).bind fun x5 =>
(haulierplay_Packet (⟨p1.Kind, p1.Path, p1.Number, p1.Of, p1.From, p1.Data, p1.Fin, p1.Seen, p1.Limit⟩ : api_Packet) p3).bind fun x13 =>
(packet_Pack (⟨x5.Kind, x5.Path, x5.Number, x5.Of, x5.From, x5.Data, x5.Fin, x5.Seen, x5.Limit⟩ : api_Packet)).bind fun (x35, x36) =>
(haulierref01_Pack (⟨x5.Kind, x5.Path, x5.Number, x5.Of, x5.From, x5.Data, x5.Fin, x5.Seen, x5.Limit⟩ : api_Packet)).bind fun (x44, x45) =>
(packet_Plain (⟨x5.Kind, x5.Path, x5.Number, x5.Of, x5.From, x5.Data, x5.Fin, x5.Seen, x5.Limit⟩ : api_Packet)).bind fun (x53, x54) =>
(haulierref01_Plain (⟨x5.Kind, x5.Path, x5.Number, x5.Of, x5.From, x5.Data, x5.Fin, x5.Seen, x5.Limit⟩ : api_Packet)).bind fun (x62, x63) =>
((if x45 = true then
some 0
else
some 1 : Option (Int))).bind fun x72 =>
if x36 = x72 then
if x54 = x72 then
(packet_Check (⟨x5.Kind, x5.Path, x5.Number, x5.Of, x5.From, x5.Data, x5.Fin, x5.Seen, x5.Limit⟩ : api_Packet)).bind fun x79 =>
if x79 = x72 then
(haulierkeep_Same_byte x35 x44).bind fun x91 =>
if x91 = true then
(haulierkeep_Same_byte x53 x62).bind fun x103 =>
if x103 = true then
(packet_Same (⟨x5.Kind, x5.Path, x5.Number, x5.Of, x5.From, x5.Data, x5.Fin, x5.Seen, x5.Limit⟩ : api_Packet) (⟨x13.Kind, x13.Path, x13.Number, x13.Of, x13.From, x13.Data, x13.Fin, x13.Seen, x13.Limit⟩ : api_Packet)).bind fun x109 =>
(haulierref01_Same (⟨x5.Kind, x5.Path, x5.Number, x5.Of, x5.From, x5.Data, x5.Fin, x5.Seen, x5.Limit⟩ : api_Packet) (⟨x13.Kind, x13.Path, x13.Number, x13.Of, x13.From, x13.Data, x13.Fin, x13.Seen, x13.Limit⟩ : api_Packet)).bind fun x114 =>
if (x109 == x114) = true then
(packet_Same (⟨x13.Kind, x13.Path, x13.Number, x13.Of, x13.From, x13.Data, x13.Fin, x13.Seen, x13.Limit⟩ : api_Packet) (⟨x13.Kind, x13.Path, x13.Number, x13.Of, x13.From, x13.Data, x13.Fin, x13.Seen, x13.Limit⟩ : api_Packet)).bind fun x120 =>
if x120 = true then
(haulierlaw06_wakes).bind fun x126 =>
some x126
else
some false
else
some false
else
some false
else
some false
else
some false
else
some false
else
some false
def segment_part (p0 : UInt8) (p1 : List (List UInt8)) : Option ((List UInt8)) :=
(slices_Concat_sbyte_byte p1).bind fun x4 =>
if fits (([p0] : List UInt8).length + x4.length) 1 ∧ ([p0] : List UInt8).length + x4.length ≤ 140737488355328 then
(sum_Seal (([p0] : List UInt8) ++ x4)).bind fun x18 =>
(span_Pack x18).bind fun x29 =>
some x29
else none
def segment_Head (p0 : Int) : Option ((List UInt8)) :=
if p0 < 1 then
some ([] : List UInt8)
else
if 4611686018427387903 < p0 then
some ([] : List UInt8)
else
(vint_Put p0).bind fun x5 =>
(segment_part (1 : UInt8) ([x5] : List (List UInt8))).bind fun x22 =>
some x22
def segment_Foot (p0 : Int) (p1 : Int) : Option ((List UInt8)) :=
if p0 < 1 then
some ([] : List UInt8)
else
if 4611686018427387903 < p0 then
some ([] : List UInt8)
else
if p1 < 0 then
some ([] : List UInt8)
else
if 4611686018427387903 < p1 then
some ([] : List UInt8)
else
(vint_Put p0).bind fun x9 =>
(vint_Put p1).bind fun x17 =>
(segment_part (3 : UInt8) ([x9, x17] : List (List UInt8))).bind fun x37 =>
some x37
def segment_Record (p0 : List UInt8) : Option ((List UInt8)) :=
if 4160 < (p0.length : Int) then
some ([] : List UInt8)
else
(segment_part (2 : UInt8) ([p0] : List (List UInt8))).bind fun x9 =>
some x9
def span_New (p0 : List UInt8) : Option (span_Reader) :=
(bytes_Clone p0).bind fun x1 =>
some (⟨x1, 0, false⟩ : span_Reader)
def vint_Take_l0 (y15 : List UInt8) : Nat → Int → Int → Option (Int)
| 0, _, _ => none
| k0 + 1, x45, x46 =>
if x46 < (y15.length : Int) then
(idx y15 x46).bind fun z60 =>
(some (bit64 .or (sl64 x45 8) (z60.toNat : Int))).bind fun x66 =>
vint_Take_l0 y15 k0 x66 (w64 (x46 + 1))
else
some x45
def vint_Take (p0 : List UInt8) : Option (Int × Int × Bool) :=
if (p0.length : Int) = 0 then
some (0, 0, false)
else
(idx p0 0).bind fun z2 =>
if (p0.length : Int) < (sl64 1 ((sr8 z2 6).toNat : Int)) then
some (0, 0, false)
else
(idx p0 0).bind fun z9 =>
(cut p0 1 (sl64 1 ((sr8 z2 6).toNat : Int))).bind fun y15 =>
((vint_Take_l0 y15 bigN ((z9 &&& (63 : UInt8)).toNat : Int) 0 : Option (Int))).bind fun x43 =>
(vint_Put x43).bind fun x70 =>
(cut p0 0 (sl64 1 ((sr8 z2 6).toNat : Int))).bind fun y78 =>
(bytes_Equal x70 y78).bind fun x86 =>
if x86 = true then
some (x43, sl64 1 ((sr8 z2 6).toNat : Int), true)
else
some (0, 0, false)
def span_Reader_Left (p0 : span_Reader) : Option (Int × span_Reader) :=
(some (w64 ((p0.b_.length : Int) - p0.at_))).bind fun x5 =>
some (x5, (⟨p0.b_, p0.at_, p0.bad_⟩ : span_Reader))
def span_Reader_Bytes (p0 : span_Reader) (p1 : Int) : Option ((List UInt8) × span_Reader) :=
(cut p0.b_ p0.at_ (p0.b_.length : Int)).bind fun y5 =>
(vint_Take y5).bind fun (x10, x11, x12) =>
((if p0.bad_ = true then
some ((⟨p0.b_, p0.at_, p0.bad_⟩ : span_Reader), true)
else
if x12 = true then
if p1 < x10 then
some ((⟨p0.b_, p0.at_, p0.bad_⟩ : span_Reader), true)
else
(span_Reader_Left (⟨p0.b_, p0.at_, p0.bad_⟩ : span_Reader)).bind fun (x43, s44) =>
some (s44, (decide ((w64 (x43 - x11)) < x10)))
else
some ((⟨p0.b_, p0.at_, p0.bad_⟩ : span_Reader), true) : Option (span_Reader × Bool))).bind fun (s37, x38) =>
if x38 = true then
some (([] : List UInt8), (⟨s37.b_, s37.at_, true⟩ : span_Reader))
else
(cut s37.b_ (w64 (s37.at_ + x11)) (w64 ((w64 (s37.at_ + x11)) + x10))).bind fun y59 =>
(bytes_Clone y59).bind fun x64 =>
some (x64, (⟨s37.b_, w64 ((w64 (s37.at_ + x11)) + x10), s37.bad_⟩ : span_Reader))
def span_Reader_Bad (p0 : span_Reader) : Option (Bool × span_Reader) :=
some (p0.bad_, (⟨p0.b_, p0.at_, p0.bad_⟩ : span_Reader))
def segment_next (p0 : span_Reader) : Option (UInt8 × (List UInt8) × Bool × span_Reader) :=
(span_Reader_Bytes p0 4165).bind fun (x2, s3) =>
(sum_Open x2).bind fun (x14, x15) =>
(span_Reader_Bad s3).bind fun (x23, s24) =>
if x23 = true then
some ((0 : UInt8), ([] : List UInt8), false, s24)
else
if x15 = true then
if (x14.length : Int) = 0 then
some ((0 : UInt8), ([] : List UInt8), false, s24)
else
(idx x14 0).bind fun z35 =>
(cut x14 1 (x14.length : Int)).bind fun y41 =>
some (z35, y41, true, s24)
else
some ((0 : UInt8), ([] : List UInt8), false, s24)
def segment_number (p0 : List UInt8) : Option (Int) :=
(vint_Take p0).bind fun (x1, x2, x3) =>
if x3 = true then
if x2 ≠ (p0.length : Int) then
some 0
else
some x1
else
some 0
def span_Reader_At (p0 : span_Reader) : Option (Int × span_Reader) :=
some (p0.at_, (⟨p0.b_, p0.at_, p0.bad_⟩ : span_Reader))
def segment_Scan_l0 (x47 : Int) : Nat → (List (List UInt8)) → span_Reader → Int → Option (segment_Found)
| 0, _, _, _ => none
| k0 + 1, x227, s230, x231 =>
(segment_next s230).bind fun (x314, x315, x316, s317) =>
if x316 = true then
if (x314.toNat : Int) = 2 then
if fits (x227.length + ([x315] : List (List UInt8)).length) 24 ∧ x227.length + ([x315] : List (List UInt8)).length ≤ 140737488355328 then
(span_Reader_At s317).bind fun (x333, s334) =>
segment_Scan_l0 x47 k0 (x227 ++ ([x315] : List (List UInt8))) s334 x333
else none
else
if (x314.toNat : Int) = 3 then
(vint_Put x47).bind fun x340 =>
(vint_Put (x227.length : Int)).bind fun x348 =>
(slices_Concat_sbyte_byte ([x340, x348] : List (List UInt8))).bind fun x368 =>
if (x315 == x368) = true then
(span_Reader_At s317).bind fun (x379, s380) =>
(span_Reader_Left s380).bind fun (x385, s386) =>
some (⟨x47, x227, x379, (decide (x385 = 0))⟩ : segment_Found)
else
some (⟨x47, x227, x231, false⟩ : segment_Found)
else
some (⟨x47, x227, x231, false⟩ : segment_Found)
else
some (⟨x47, x227, x231, false⟩ : segment_Found)
def segment_Scan (p0 : List UInt8) : Option (segment_Found) :=
(span_New p0).bind fun s3 =>
(segment_next s3).bind fun (x10, x11, x12, s13) =>
((if x12 = true then
if (x10.toNat : Int) ≠ 1 then
some true
else
(segment_number x11).bind fun x39 =>
some (decide (x39 = 0))
else
some true : Option (Bool))).bind fun x35 =>
if x35 = true then
some (⟨0, ([] : List (List UInt8)), 0, false⟩ : segment_Found)
else
(segment_number x11).bind fun x47 =>
(span_Reader_At s13).bind fun (x52, s53) =>
segment_Scan_l0 x47 bigN ([] : List (List UInt8)) s53 x52
def haulierlaw09_wakes : Option (Bool) :=
(segment_Scan ([] : List UInt8)).bind fun x1 =>
(segment_Head 3).bind fun x11 =>
(segment_Record ([(7 : UInt8)] : List UInt8)).bind fun x25 =>
if fits (x11.length + x25.length) 1 ∧ x11.length + x25.length ≤ 140737488355328 then
(segment_Foot 3 1).bind fun x36 =>
if fits ((x11 ++ x25).length + x36.length) 1 ∧ (x11 ++ x25).length + x36.length ≤ 140737488355328 then
(segment_Scan ((x11 ++ x25) ++ x36)).bind fun x50 =>
if x1.Number = 0 then
if x50.Number = 3 then
if (x50.Records.length : Int) = 1 then
if x50.Sealed = true then
some (decide (x50.Whole = (((x11 ++ x25) ++ x36).length : Int)))
else
some false
else
some false
else
some false
else
some false
else none
else none
def haulierlaw09_SegmentUnits (p0 : Int) (p1 : Int) (p2 : List UInt8) : Option (Bool) :=
(haulierkeep_Within p0 60).bind fun x1 =>
(haulierkeep_Within p1 60).bind fun x6 =>
(haulierkeep_Cut_byte p2 40).bind fun x11 =>
(haulierref01_Seal ([(1 : UInt8), (u8of (w64 (1 + x1)))] : List UInt8)).bind fun x25 =>
(some ([(3 : UInt8), (u8of (w64 (1 + x1))), (u8of x6)] : List UInt8)).bind fun x36 =>
(haulierref01_Seal x36).bind fun x41 =>
if fits (([(2 : UInt8)] : List UInt8).length + x11.length) 1 ∧ ([(2 : UInt8)] : List UInt8).length + x11.length ≤ 140737488355328 then
(haulierref01_Seal (([(2 : UInt8)] : List UInt8) ++ x11)).bind fun x58 =>
(((segment_Head (w64 (1 + x1))).bind fun x232 =>
if fits (([(6 : UInt8)] : List UInt8).length + x25.length) 1 ∧ ([(6 : UInt8)] : List UInt8).length + x25.length ≤ 140737488355328 then
(haulierkeep_Same_byte x232 (([(6 : UInt8)] : List UInt8) ++ x25)).bind fun x252 =>
if x252 = true then
(segment_Foot (w64 (1 + x1)) x6).bind fun x258 =>
if fits (([(7 : UInt8)] : List UInt8).length + x41.length) 1 ∧ ([(7 : UInt8)] : List UInt8).length + x41.length ≤ 140737488355328 then
(haulierkeep_Same_byte x258 (([(7 : UInt8)] : List UInt8) ++ x41)).bind fun x278 =>
if x278 = true then
(segment_Record x11).bind fun x287 =>
if fits (([(u8of (x58.length : Int))] : List UInt8).length + x58.length) 1 ∧ ([(u8of (x58.length : Int))] : List UInt8).length + x58.length ≤ 140737488355328 then
(some (([(u8of (x58.length : Int))] : List UInt8) ++ x58 : List UInt8)).bind fun x301 =>
(haulierkeep_Same_byte x287 x301).bind fun x309 =>
some (!x309)
else none
else
some true
else none
else
some true
else none : Option (Bool))).bind fun x230 =>
if x230 = true then
some false
else
(segment_Head 0).bind fun x317 =>
if (x317.length : Int) = 0 then
(segment_Head (w64 (0 - (w64 (1 + x1))))).bind fun x326 =>
if (x326.length : Int) = 0 then
(segment_Head 4611686018427387904).bind fun x335 =>
if (x335.length : Int) = 0 then
(segment_Foot 0 x6).bind fun x344 =>
if (x344.length : Int) = 0 then
(segment_Foot (w64 (1 + x1)) (w64 ((-1) - x6))).bind fun x353 =>
if (x353.length : Int) = 0 then
if (0 : Int) ≤ 4161 ∧ fits (4161 : Int).toNat 1 ∧ 4161 ≤ (140737488355328 : Int) then
(segment_Record (List.replicate (4161 : Int).toNat (0 : UInt8))).bind fun x369 =>
if (x369.length : Int) = 0 then
if (0 : Int) ≤ 4160 ∧ fits (4160 : Int).toNat 1 ∧ 4160 ≤ (140737488355328 : Int) then
(segment_Record (List.replicate (4160 : Int).toNat (0 : UInt8))).bind fun x385 =>
if (x385.length : Int) = 4167 then
(haulierlaw09_wakes).bind fun x394 =>
some x394
else
some false
else none
else
some false
else none
else
some false
else
some false
else
some false
else
some false
else
some false
else none
def haulierlaw09_SegmentEnds_l0 (x6 : Int) : Nat → (List UInt8) → Int → Option ((List UInt8))
| 0, _, _ => none
| k0 + 1, x66, x69 =>
if x69 < x6 then
(segment_Record ([(u8of x69)] : List UInt8)).bind fun x98 =>
if fits (x66.length + x98.length) 1 ∧ x66.length + x98.length ≤ 140737488355328 then
haulierlaw09_SegmentEnds_l0 x6 k0 (x66 ++ x98) (w64 (x69 + 1))
else none
else
some x66
def haulierlaw09_SegmentEnds_l1 (x1 : Int) (x6 : Int) (x62 : List UInt8) (x197 : List UInt8) (x205 : List UInt8) (x213 : List UInt8) : Nat → Int → Option (Sum (Bool) (Unit))
| 0, _ => none
| k1 + 1, x318 =>
(some (decide (x318 < (([x197, x205, x213] : List (List UInt8)).length : Int)))).bind fun x362 =>
if x362 = true then
if (0 : Int) ≤ x318 ∧ x318 < (([x197, x205, x213] : List (List UInt8)).length : Int) then
(([x197, x205, x213] : List (List UInt8))[(x318 : Int).toNat]?).bind fun z370 =>
(haulierkeep_Copy_byte x62).bind fun x374 =>
if fits (x374.length + z370.length) 1 ∧ x374.length + z370.length ≤ 140737488355328 then
(segment_Scan (x374 ++ z370)).bind fun x388 =>
if x388.Sealed = true then
some (Sum.inl false)
else
if x388.Whole ≠ (x62.length : Int) then
some (Sum.inl false)
else
if (x388.Records.length : Int) ≠ x6 then
some (Sum.inl false)
else
if x388.Number ≠ (w64 (1 + x1)) then
some (Sum.inl false)
else
haulierlaw09_SegmentEnds_l1 x1 x6 x62 x197 x205 x213 k1 (w64 (x318 + 1))
else none
else none
else
some (Sum.inr ())
def haulierlaw09_SegmentEnds_l2 (x114 : List UInt8) (x122 : List UInt8) (x410 : List UInt8) (x418 : List UInt8) (x426 : List UInt8) : Nat → Int → Option (Bool)
| 0, _ => none
| k2 + 1, x446 =>
(some (decide (x446 < (([x410, x418, x426] : List (List UInt8)).length : Int)))).bind fun x476 =>
if x476 = true then
if (0 : Int) ≤ x446 ∧ x446 < (([x410, x418, x426] : List (List UInt8)).length : Int) then
(([x410, x418, x426] : List (List UInt8))[(x446 : Int).toNat]?).bind fun z484 =>
(segment_Scan z484).bind fun x488 =>
if x488.Number ≠ 0 then
some false
else
if x488.Whole ≠ 0 then
some false
else
if (x488.Records.length : Int) ≠ 0 then
some false
else
if x488.Sealed = true then
some false
else
haulierlaw09_SegmentEnds_l2 x114 x122 x410 x418 x426 k2 (w64 (x446 + 1))
else none
else
(segment_Scan (x114 ++ x122)).bind fun x502 =>
if x502.Sealed = true then
(haulierlaw09_wakes).bind fun x511 =>
some x511
else
some false
def haulierlaw09_SegmentEnds (p0 : Int) (p1 : Int) (p2 : Int) (p3 : List UInt8) : Option (Bool) :=
(haulierkeep_Within p0 1000).bind fun x1 =>
(haulierkeep_Within p1 5).bind fun x6 =>
(segment_Head (w64 (1 + x1))).bind fun x11 =>
((haulierlaw09_SegmentEnds_l0 x6 bigN x11 0 : Option ((List UInt8)))).bind fun x62 =>
(haulierkeep_Copy_byte x62).bind fun x114 =>
(segment_Foot (w64 (1 + x1)) x6).bind fun x122 =>
if fits (x114.length + x122.length) 1 ∧ x114.length + x122.length ≤ 140737488355328 then
(haulierkeep_Copy_byte (x114 ++ x122)).bind fun x136 =>
(haulierkeep_Cut_byte p3 20).bind fun x144 =>
if fits (x136.length + x144.length) 1 ∧ x136.length + x144.length ≤ 140737488355328 then
if fits ((x136 ++ x144).length + ([(0 : UInt8)] : List UInt8).length) 1 ∧ (x136 ++ x144).length + ([(0 : UInt8)] : List UInt8).length ≤ 140737488355328 then
(some ((x136 ++ x144) ++ ([(0 : UInt8)] : List UInt8) : List UInt8)).bind fun x161 =>
(segment_Scan x161).bind fun x166 =>
((if x166.Sealed = true then
some true
else
if x166.Whole ≠ ((x114 ++ x122).length : Int) then
some true
else
if (x166.Records.length : Int) ≠ x6 then
some true
else
some (decide (x166.Number ≠ (w64 (1 + x1)))) : Option (Bool))).bind fun x182 =>
if x182 = true then
some false
else
(haulierkeep_Within p2 50).bind fun x190 =>
(some (w64 ((w64 (1 + x1)) + (w64 (1 + x190))))).bind fun x195 =>
(segment_Foot x195 x6).bind fun x197 =>
(segment_Foot (w64 (1 + x1)) (w64 (x6 + (w64 (1 + x190))))).bind fun x205 =>
(segment_Head (w64 (1 + x1))).bind fun x213 =>
((haulierlaw09_SegmentEnds_l1 x1 x6 x62 x197 x205 x213 bigN 0 : Option (Sum (Bool) (Unit)))).bind fun j => match j with
| .inl r => some r
| .inr _ =>
(segment_Record ([(1 : UInt8)] : List UInt8)).bind fun x410 =>
(segment_Foot (w64 (1 + x1)) 0).bind fun x418 =>
(haulierkeep_Cut_byte p3 3).bind fun x426 =>
haulierlaw09_SegmentEnds_l2 x114 x122 x410 x418 x426 bigN 0
else none
else none
else none
def haulierref01_Take_l0 (p0 : List UInt8) (x8 : Int) : Nat → Int → Int → Option (Int × Int × Bool)
| 0, _, _ => none
| k0 + 1, x17, x18 =>
if x18 < x8 then
(idx p0 x18).bind fun z32 =>
(some (bit64 .or (sl64 x17 8) (z32.toNat : Int))).bind fun x38 =>
haulierref01_Take_l0 p0 x8 k0 x38 (w64 (x18 + 1))
else
(haulierref01_Size x17).bind fun x40 =>
if x40 ≠ x8 then
some (0, 0, false)
else
some (x17, x8, true)
def haulierref01_Take (p0 : List UInt8) : Option (Int × Int × Bool) :=
if (p0.length : Int) = 0 then
some (0, 0, false)
else
(idx p0 0).bind fun z2 =>
(some (sl64 1 ((sr8 z2 6).toUInt64.toNat : Int))).bind fun x8 =>
if (p0.length : Int) < x8 then
some (0, 0, false)
else
(idx p0 0).bind fun z11 =>
haulierref01_Take_l0 p0 x8 bigN ((z11 % (64 : UInt8)).toNat : Int) 1
def haulierlaw09_SegmentBack_l0 (p1 : List (List UInt8)) : Nat → (List (List UInt8)) → (List Int) → (List UInt8) → Int → Option ((List Int) × (List UInt8) × (List (List UInt8)))
| 0, _, _, _, _ => none
| k0 + 1, x148, x151, x154, x157 =>
((if x157 < (p1.length : Int) then
some (decide (x157 < 6))
else
some false : Option (Bool))).bind fun x215 =>
if x215 = true then
(idx p1 x157).bind fun z221 =>
(haulierkeep_Cut_byte z221 60).bind fun x229 =>
(segment_Record x229).bind fun x240 =>
if fits (x154.length + x240.length) 1 ∧ x154.length + x240.length ≤ 140737488355328 then
if fits (x151.length + ([((x154 ++ x240).length : Int)] : List Int).length) 8 ∧ x151.length + ([((x154 ++ x240).length : Int)] : List Int).length ≤ 140737488355328 then
(some (x151 ++ ([((x154 ++ x240).length : Int)] : List Int) : List Int)).bind fun x257 =>
if fits (x148.length + ([x229] : List (List UInt8)).length) 24 ∧ x148.length + ([x229] : List (List UInt8)).length ≤ 140737488355328 then
haulierlaw09_SegmentBack_l0 p1 k0 (x148 ++ ([x229] : List (List UInt8))) x257 (x154 ++ x240) (w64 (x157 + 1))
else none
else none
else none
else
some (x151, x154, x148)
def haulierlaw09_SegmentBack_l1 (x141 : List (List UInt8)) (x302 : segment_Found) : Nat → Int → Option (Sum (Bool) (Unit))
| 0, _ => none
| k1 + 1, x395 =>
if x395 < (x141.length : Int) then
(idx x302.Records x395).bind fun z426 =>
if (0 : Int) ≤ x395 ∧ x395 < (x141.length : Int) then
(x141[(x395 : Int).toNat]?).bind fun z439 =>
(haulierkeep_Same_byte z426 z439).bind fun x443 =>
if x443 = true then
haulierlaw09_SegmentBack_l1 x141 x302 k1 (w64 (x395 + 1))
else
some (Sum.inl false)
else none
else
some (Sum.inr ())
def haulierlaw09_SegmentBack_l2 (x135 : List Int) (x453 : Int) : Nat → Int → Option (Int)
| 0, _ => none
| k2 + 1, x482 =>
if x482 < (x135.length : Int) then
if (0 : Int) ≤ x482 ∧ x482 < (x135.length : Int) then
(x135[(x482 : Int).toNat]?).bind fun z501 =>
if z501 ≤ x453 then
haulierlaw09_SegmentBack_l2 x135 x453 k2 (w64 (x482 + 1))
else
some x482
else none
else
some x482
def haulierlaw09_SegmentBack (p0 : Int) (p1 : List (List UInt8)) (p2 : Int) (p3 : Int) : Option (Bool) :=
(haulierkeep_Within p0 1073741824).bind fun x1 =>
(segment_Head (w64 (1 + x1))).bind fun x6 =>
((haulierlaw09_SegmentBack_l0 p1 bigN ([] : List (List UInt8)) ([(x6.length : Int)] : List Int) x6 0 : Option ((List Int) × (List UInt8) × (List (List UInt8))))).bind fun (x135, x138, x141) =>
(segment_Scan x138).bind fun x270 =>
(haulierkeep_Copy_byte x138).bind fun x280 =>
(segment_Foot (w64 (1 + x1)) (x141.length : Int)).bind fun x288 =>
if fits (x280.length + x288.length) 1 ∧ x280.length + x288.length ≤ 140737488355328 then
(segment_Scan (x280 ++ x288)).bind fun x302 =>
((if x270.Number ≠ (w64 (1 + x1)) then
some true
else
if (x270.Records.length : Int) ≠ (x141.length : Int) then
some true
else
if x270.Whole ≠ (x138.length : Int) then
some true
else
if x270.Sealed = true then
some true
else
if x302.Number ≠ (w64 (1 + x1)) then
some true
else
if (x302.Records.length : Int) ≠ (x141.length : Int) then
some true
else
if x302.Whole ≠ ((x280 ++ x288).length : Int) then
some true
else
some (!x302.Sealed) : Option (Bool))).bind fun x326 =>
if x326 = true then
some false
else
((haulierlaw09_SegmentBack_l1 x141 x302 bigN 0 : Option (Sum (Bool) (Unit)))).bind fun j => match j with
| .inl r => some r
| .inr _ =>
(haulierkeep_Within p2 (w64 ((x138.length : Int) + 1))).bind fun x453 =>
((haulierlaw09_SegmentBack_l2 x135 x453 bigN 0 : Option (Int))).bind fun x480 =>
(cut (x280 ++ x288) 0 x453).bind fun y506 =>
(segment_Scan y506).bind fun x511 =>
if x480 = 0 then
((if x511.Number = 0 then
if (x511.Records.length : Int) = 0 then
if x511.Whole = 0 then
if x511.Sealed = true then
some false
else
(haulierlaw09_wakes).bind fun x546 =>
some x546
else
some false
else
some false
else
some false : Option (Bool))).bind fun x540 =>
some x540
else
((if x511.Number ≠ (w64 (1 + x1)) then
some true
else
if (x511.Records.length : Int) ≠ (w64 (x480 - 1)) then
some true
else
if (0 : Int) ≤ (w64 (x480 - 1)) ∧ (w64 (x480 - 1)) < (x135.length : Int) then
(x135[(w64 (x480 - 1) : Int).toNat]?).bind fun z602 =>
if x511.Whole ≠ z602 then
some true
else
some x511.Sealed
else none : Option (Bool))).bind fun x589 =>
if x589 = true then
some false
else
(haulierkeep_Within p3 (x135.length : Int)).bind fun x612 =>
((if 0 < x612 then
if (0 : Int) ≤ (w64 (x612 - 1)) ∧ (w64 (x612 - 1)) < (x135.length : Int) then
(x135[(w64 (x612 - 1) : Int).toNat]?).bind fun z633 =>
some z633
else none
else
some 0 : Option (Int))).bind fun x625 =>
(cut x138 x625 (x138.length : Int)).bind fun y637 =>
(haulierref01_Take y637).bind fun (x642, x643, x644) =>
((if x644 = true then
if (0 : Int) ≤ x612 ∧ x612 < (x135.length : Int) then
(x135[(x612 : Int).toNat]?).bind fun z673 =>
some (decide ((w64 ((w64 (z673 - x625)) - x643)) < 1))
else none
else
some true : Option (Bool))).bind fun x665 =>
if x665 = true then
some false
else
(haulierkeep_Copy_byte (x280 ++ x288)).bind fun x678 =>
if (0 : Int) ≤ x612 ∧ x612 < (x135.length : Int) then
(x135[(x612 : Int).toNat]?).bind fun z691 =>
(some (w64 (8 * (w64 ((w64 (z691 - x625)) - x643))))).bind fun x693 =>
(haulierkeep_Within (w64 ((p3).tdiv 7)) x693).bind fun x695 =>
(some (w64 ((w64 (8 * (w64 (x625 + x643)))) + x695))).bind fun x700 =>
if (0 : Int) ≤ (w64 ((x700).tdiv 8)) ∧ (w64 ((x700).tdiv 8)) < (x678.length : Int) then
(x678[(w64 ((x700).tdiv 8) : Int).toNat]?).bind fun z707 =>
if (0 : Int) ≤ (w64 ((x700).tdiv 8)) ∧ (w64 ((x700).tdiv 8)) < (x678.length : Int) then
(some (x678.set (w64 ((x700).tdiv 8) : Int).toNat (z707 ^^^ (sl8 (1 : UInt8) ((u64of ((x700).tmod 8)).toNat : Int))))).bind fun x712 =>
(segment_Scan x712).bind fun x717 =>
if x717.Sealed = true then
some false
else
(some (if w64 (x612 - 1) < 0 then 0 else w64 (x612 - 1))).bind fun x728 =>
if (x717.Records.length : Int) = x728 then
if ((decide (x612 = 0)) == (decide (x717.Number = 0))) = true then
if x717.Whole = x625 then
(haulierlaw09_wakes).bind fun x733 =>
some x733
else
some false
else
some false
else
some false
else none
else none
else none
else none
def span_Reader_Byte (p0 : span_Reader) : Option (UInt8 × span_Reader) :=
((if p0.bad_ = true then
some ((⟨p0.b_, p0.at_, p0.bad_⟩ : span_Reader), true)
else
(span_Reader_Left (⟨p0.b_, p0.at_, p0.bad_⟩ : span_Reader)).bind fun (x29, s30) =>
some (s30, (decide (x29 = 0))) : Option (span_Reader × Bool))).bind fun (s22, x23) =>
if x23 = true then
some ((0 : UInt8), (⟨s22.b_, s22.at_, true⟩ : span_Reader))
else
(idx s22.b_ (w64 ((w64 (s22.at_ + 1)) - 1))).bind fun z44 =>
some (z44, (⟨s22.b_, w64 (s22.at_ + 1), s22.bad_⟩ : span_Reader))
def span_Reader_Number (p0 : span_Reader) : Option (Int × span_Reader) :=
(cut p0.b_ p0.at_ (p0.b_.length : Int)).bind fun y5 =>
(vint_Take y5).bind fun (x10, x11, x12) =>
((if p0.bad_ = true then
some ((⟨p0.b_, p0.at_, p0.bad_⟩ : span_Reader), true)
else
some ((⟨p0.b_, p0.at_, p0.bad_⟩ : span_Reader), (!x12)) : Option (span_Reader × Bool))).bind fun (s21, x22) =>
if x22 = true then
some (0, (⟨s21.b_, s21.at_, true⟩ : span_Reader))
else
some (x10, (⟨s21.b_, w64 (s21.at_ + x11), s21.bad_⟩ : span_Reader))
def packet_Take (p0 : span_Reader) : Option (api_Packet × Bool × span_Reader) :=
(span_Reader_Byte p0).bind fun (x4, s5) =>
(span_Reader_Number s5).bind fun (x10, s11) =>
(span_Reader_Number s11).bind fun (x16, s17) =>
if (x4.toNat : Int) = 2 then
(span_Reader_Number s17).bind fun (x25, s26) =>
(span_Reader_Bad s26).bind fun (x31, s32) =>
if x31 = true then
some ((⟨0, 0, 0, 0, 0, ([] : List UInt8), false, 0, 0⟩ : api_Packet), false, s32)
else
(packet_Check (⟨(x4.toNat : Int), x10, x16, x25, 0, ([] : List UInt8), false, 0, 0⟩ : api_Packet)).bind fun x38 =>
if x38 ≠ 0 then
some ((⟨0, 0, 0, 0, 0, ([] : List UInt8), false, 0, 0⟩ : api_Packet), false, s32)
else
some ((⟨(x4.toNat : Int), x10, x16, x25, 0, ([] : List UInt8), false, 0, 0⟩ : api_Packet), true, s32)
else
if (x4.toNat : Int) = 3 then
(span_Reader_Number s17).bind fun (x45, s46) =>
(span_Reader_Bytes s46 64).bind fun (x51, s52) =>
(span_Reader_Byte s52).bind fun (x60, s61) =>
if 1 < (x60.toNat : Int) then
some ((⟨0, 0, 0, 0, 0, ([] : List UInt8), false, 0, 0⟩ : api_Packet), false, s61)
else
(span_Reader_Bad s61).bind fun (x67, s68) =>
if x67 = true then
some ((⟨0, 0, 0, 0, 0, ([] : List UInt8), false, 0, 0⟩ : api_Packet), false, s68)
else
(packet_Check (⟨(x4.toNat : Int), x10, x16, 0, x45, x51, (decide ((x60.toNat : Int) = 1)), 0, 0⟩ : api_Packet)).bind fun x77 =>
if x77 ≠ 0 then
some ((⟨0, 0, 0, 0, 0, ([] : List UInt8), false, 0, 0⟩ : api_Packet), false, s68)
else
some ((⟨(x4.toNat : Int), x10, x16, 0, x45, x51, (decide ((x60.toNat : Int) = 1)), 0, 0⟩ : api_Packet), true, s68)
else
if (x4.toNat : Int) = 4 then
(span_Reader_Number s17).bind fun (x84, s85) =>
(span_Reader_Number s85).bind fun (x90, s91) =>
(span_Reader_Number s91).bind fun (x96, s97) =>
(span_Reader_Bad s97).bind fun (x102, s103) =>
if x102 = true then
some ((⟨0, 0, 0, 0, 0, ([] : List UInt8), false, 0, 0⟩ : api_Packet), false, s103)
else
(packet_Check (⟨(x4.toNat : Int), x10, x16, x84, 0, ([] : List UInt8), false, x90, x96⟩ : api_Packet)).bind fun x109 =>
if x109 ≠ 0 then
some ((⟨0, 0, 0, 0, 0, ([] : List UInt8), false, 0, 0⟩ : api_Packet), false, s103)
else
some ((⟨(x4.toNat : Int), x10, x16, x84, 0, ([] : List UInt8), false, x90, x96⟩ : api_Packet), true, s103)
else
(span_Reader_Bad s17).bind fun (x115, s116) =>
if x115 = true then
some ((⟨0, 0, 0, 0, 0, ([] : List UInt8), false, 0, 0⟩ : api_Packet), false, s116)
else
(packet_Check (⟨(x4.toNat : Int), x10, x16, 0, 0, ([] : List UInt8), false, 0, 0⟩ : api_Packet)).bind fun x122 =>
if x122 ≠ 0 then
some ((⟨0, 0, 0, 0, 0, ([] : List UInt8), false, 0, 0⟩ : api_Packet), false, s116)
else
some ((⟨(x4.toNat : Int), x10, x16, 0, 0, ([] : List UInt8), false, 0, 0⟩ : api_Packet), true, s116)
def haulierlaw06_PacketForms_l0 (x69 : List Anon64) : Nat → Int → Option (Bool)
| 0, _ => none
| k0 + 1, x71 =>
if x71 < (x69.length : Int) then
if (0 : Int) ≤ x71 ∧ x71 < (x69.length : Int) then
(x69[(x71 : Int).toNat]?).bind fun z174 =>
(packet_Plain (⟨z174.p_.Kind, z174.p_.Path, z174.p_.Number, z174.p_.Of, z174.p_.From, z174.p_.Data, z174.p_.Fin, z174.p_.Seen, z174.p_.Limit⟩ : api_Packet)).bind fun (x184, x185) =>
(span_New z174.b_).bind fun s193 =>
((if x185 ≠ 0 then
some true
else
(haulierkeep_Same_byte x184 z174.b_).bind fun x226 =>
if x226 = true then
some false
else
some true : Option (Bool))).bind fun x220 =>
if x220 = true then
some false
else
(packet_Take s193).bind fun (x235, x236, s237) =>
if x236 = true then
(packet_Same (⟨x235.Kind, x235.Path, x235.Number, x235.Of, x235.From, x235.Data, x235.Fin, x235.Seen, x235.Limit⟩ : api_Packet) (⟨z174.p_.Kind, z174.p_.Path, z174.p_.Number, z174.p_.Of, z174.p_.From, z174.p_.Data, z174.p_.Fin, z174.p_.Seen, z174.p_.Limit⟩ : api_Packet)).bind fun x248 =>
if x248 = true then
(span_Reader_Left s237).bind fun (x254, s255) =>
if x254 ≠ 0 then
some false
else
haulierlaw06_PacketForms_l0 x69 k0 (w64 (x71 + 1))
else
some false
else
some false
else none
else
(haulierlaw06_wakes).bind fun x261 =>
some x261
def haulierlaw06_PacketForms (p0 : Int) (p1 : Int) (p2 : Int) (p3 : Bool) : Option (Bool) :=
(haulierkeep_Within p0 64).bind fun x1 =>
(haulierkeep_Within p1 64).bind fun x6 =>
(haulierkeep_Within p2 64).bind fun x11 =>
((if p3 = true then
some (1 : UInt8)
else
some (0 : UInt8) : Option (UInt8))).bind fun x17 =>
(some ([(2 : UInt8), (0 : UInt8), (65 : UInt8), (44 : UInt8), (u8of x1)] : List UInt8)).bind fun x28 =>
(some ([(3 : UInt8), (1 : UInt8), (u8of x1), (u8of x6), (2 : UInt8), (97 : UInt8), (98 : UInt8), x17] : List UInt8)).bind fun x39 =>
(some ([(3 : UInt8), (0 : UInt8), (u8of x1), (80 : UInt8), (0 : UInt8), (0 : UInt8), (0 : UInt8)] : List UInt8)).bind fun x44 =>
(some ([(4 : UInt8), (1 : UInt8), (u8of x1), (128 : UInt8), (0 : UInt8), (255 : UInt8), (255 : UInt8), (u8of x11), (64 : UInt8), (100 : UInt8)] : List UInt8)).bind fun x49 =>
(some ([(⟨⟨1, 2, x1, 0, 0, ([] : List UInt8), false, 0, 0⟩, ([(1 : UInt8), (2 : UInt8), (u8of x1)] : List UInt8)⟩ : Anon64), (⟨⟨2, 0, 300, x1, 0, ([] : List UInt8), false, 0, 0⟩, x28⟩ : Anon64), (⟨⟨3, 1, x1, 0, x6, ([(97 : UInt8), (98 : UInt8)] : List UInt8), p3, 0, 0⟩, x39⟩ : Anon64), (⟨⟨3, 0, x1, 0, 4096, ([] : List UInt8), false, 0, 0⟩, x44⟩ : Anon64), (⟨⟨4, 1, x1, 65535, 0, ([] : List UInt8), false, x11, 100⟩, x49⟩ : Anon64)] : List Anon64)).bind fun x69 =>
haulierlaw06_PacketForms_l0 x69 bigN 0
def haulierlaw06_PacketRows_l0 (p0 : List api_Packet) : Nat → (List api_Packet) → (List UInt8) → Int → Option (Sum (Bool) ((List UInt8) × (List api_Packet)))
| 0, _, _, _ => none
| k0 + 1, x144, x147, x150 =>
((if x150 < (p0.length : Int) then
some (decide (x150 < 6))
else
some false : Option (Bool))).bind fun x215 =>
if x215 = true then
(idx p0 x150).bind fun z221 =>
(haulierplay_Packet (⟨z221.Kind, z221.Path, z221.Number, z221.Of, z221.From, z221.Data, z221.Fin, z221.Seen, z221.Limit⟩ : api_Packet) 0).bind fun x230 =>
(packet_Plain (⟨x230.Kind, x230.Path, x230.Number, x230.Of, x230.From, x230.Data, x230.Fin, x230.Seen, x230.Limit⟩ : api_Packet)).bind fun (x240, x241) =>
if x241 ≠ 0 then
some (Sum.inl false)
else
if fits (x147.length + x240.length) 1 ∧ x147.length + x240.length ≤ 140737488355328 then
(some ([(⟨x230.Kind, x230.Path, x230.Number, x230.Of, x230.From, x230.Data, x230.Fin, x230.Seen, x230.Limit⟩ : api_Packet)] : List api_Packet)).bind fun x256 =>
if fits (x144.length + x256.length) 88 ∧ x144.length + x256.length ≤ 140737488355328 then
haulierlaw06_PacketRows_l0 p0 k0 (x144 ++ x256) (x147 ++ x240) (w64 (x150 + 1))
else none
else none
else
some (Sum.inr (x147, x144))
def haulierlaw06_PacketRows_l1 (x136 : List api_Packet) : Nat → span_Reader → Int → Option (Sum (Bool) (span_Reader))
| 0, _, _ => none
| k1 + 1, s423, x424 =>
if x424 < (x136.length : Int) then
if (0 : Int) ≤ x424 ∧ x424 < (x136.length : Int) then
(x136[(x424 : Int).toNat]?).bind fun z466 =>
(packet_Take s423).bind fun (x473, x474, s475) =>
if x474 = true then
(packet_Same (⟨z466.Kind, z466.Path, z466.Number, z466.Of, z466.From, z466.Data, z466.Fin, z466.Seen, z466.Limit⟩ : api_Packet) (⟨x473.Kind, x473.Path, x473.Number, x473.Of, x473.From, x473.Data, x473.Fin, x473.Seen, x473.Limit⟩ : api_Packet)).bind fun x486 =>
if x486 = true then
haulierlaw06_PacketRows_l1 x136 k1 s475 (w64 (x424 + 1))
else
some (Sum.inl false)
else
some (Sum.inl false)
else none
else
some (Sum.inr s423)
def haulierlaw06_PacketRows_l2 (x136 : List api_Packet) : Nat → span_Reader → Int → Option (Bool)
| 0, _, _ => none
| k2 + 1, s577, x578 =>
if x578 < (x136.length : Int) then
(packet_Take s577).bind fun (x597, x598, s599) =>
if x598 = true then
haulierlaw06_PacketRows_l2 x136 k2 s599 (w64 (x578 + 1))
else
if x578 < (x136.length : Int) then
(haulierlaw06_wakes).bind fun x611 =>
some x611
else
some false
else
if x578 < (x136.length : Int) then
(haulierlaw06_wakes).bind fun x617 =>
some x617
else
some false
def haulierlaw06_PacketRows (p0 : List api_Packet) (p1 : Int) : Option (Bool) :=
((haulierlaw06_PacketRows_l0 p0 bigN ([] : List api_Packet) ([] : List UInt8) 0 : Option (Sum (Bool) ((List UInt8) × (List api_Packet))))).bind fun j => match j with
| .inl r => some r
| .inr (x131, x136) =>
(span_New x131).bind fun s277 =>
((haulierlaw06_PacketRows_l1 x136 bigN s277 0 : Option (Sum (Bool) (span_Reader)))).bind fun j => match j with
| .inl r => some r
| .inr s387 =>
(((span_Reader_Left s387).bind fun (x522, s523) =>
if x522 ≠ 0 then
some true
else
(span_Reader_Bad s523).bind fun (x529, s530) =>
some x529 : Option (Bool))).bind fun x520 =>
if x520 = true then
some false
else
if (x131.length : Int) = 0 then
(haulierlaw06_wakes).bind fun x539 =>
some x539
else
(haulierkeep_Within p1 (x131.length : Int)).bind fun x544 =>
(cut x131 0 x544).bind fun y549 =>
(span_New y549).bind fun s554 =>
haulierlaw06_PacketRows_l2 x136 bigN s554 0
def packet_Unpack (p0 : List UInt8) : Option (api_Packet × Int) :=
(sum_Open p0).bind fun (x3, x4) =>
if x4 = true then
(span_New x3).bind fun s16 =>
(packet_Take s16).bind fun (x23, x24, s25) =>
if x24 = true then
(span_Reader_Left s25).bind fun (x36, s37) =>
if 0 < x36 then
some ((⟨0, 0, 0, 0, 0, ([] : List UInt8), false, 0, 0⟩ : api_Packet), 2)
else
some ((⟨x23.Kind, x23.Path, x23.Number, x23.Of, x23.From, x23.Data, x23.Fin, x23.Seen, x23.Limit⟩ : api_Packet), 0)
else
some ((⟨0, 0, 0, 0, 0, ([] : List UInt8), false, 0, 0⟩ : api_Packet), 2)
else
some ((⟨0, 0, 0, 0, 0, ([] : List UInt8), false, 0, 0⟩ : api_Packet), 2)
def haulierlaw06_PacketBack (p0 : api_Packet) (p1 : Int) (p2 : Int) (p3 : UInt32) : Option (Bool) :=
(haulierkeep_Within p1 29).bind fun x3 =>
(haulierplay_Packet (⟨p0.Kind, p0.Path, p0.Number, p0.Of, p0.From, p0.Data, p0.Fin, p0.Seen, p0.Limit⟩ : api_Packet) x3).bind fun x8 =>
(packet_Pack (⟨x8.Kind, x8.Path, x8.Number, x8.Of, x8.From, x8.Data, x8.Fin, x8.Seen, x8.Limit⟩ : api_Packet)).bind fun (x24, x25) =>
((if x25 ≠ 0 then
some true
else
some (decide ((x24.length : Int) < 7)) : Option (Bool))).bind fun x35 =>
if x35 = true then
some false
else
(packet_Unpack x24).bind fun (x44, x45) =>
(haulierkeep_Within p2 (w64 (8 * (x24.length : Int)))).bind fun x55 =>
(haulierref01_Spoil x24 x55 (p3 ||| (1 : UInt32))).bind fun x60 =>
(packet_Unpack x60).bind fun (x71, x72) =>
if x45 = 0 then
(packet_Same (⟨x8.Kind, x8.Path, x8.Number, x8.Of, x8.From, x8.Data, x8.Fin, x8.Seen, x8.Limit⟩ : api_Packet) (⟨x44.Kind, x44.Path, x44.Number, x44.Of, x44.From, x44.Data, x44.Fin, x44.Seen, x44.Limit⟩ : api_Packet)).bind fun x83 =>
if x83 = true then
if x72 = 2 then
(packet_Same (⟨x71.Kind, x71.Path, x71.Number, x71.Of, x71.From, x71.Data, x71.Fin, x71.Seen, x71.Limit⟩ : api_Packet) (⟨0, 0, 0, 0, 0, ([] : List UInt8), false, 0, 0⟩ : api_Packet)).bind fun x90 =>
if x90 = true then
(haulierlaw06_wakes).bind fun x96 =>
some x96
else
some false
else
some false
else
some false
else
some false
def haulierref01_Reader_Byte (p0 : haulierref01_Reader) : Option (UInt8 × haulierref01_Reader) :=
((if p0.Bad = true then
some ((⟨p0.B, p0.At, p0.Bad⟩ : haulierref01_Reader), true)
else
some ((⟨p0.B, p0.At, p0.Bad⟩ : haulierref01_Reader), (decide ((p0.B.length : Int) ≤ p0.At))) : Option (haulierref01_Reader × Bool))).bind fun (s18, x19) =>
if x19 = true then
some ((0 : UInt8), (⟨s18.B, s18.At, true⟩ : haulierref01_Reader))
else
(idx s18.B (w64 ((w64 (s18.At + 1)) - 1))).bind fun z38 =>
some (z38, (⟨s18.B, w64 (s18.At + 1), s18.Bad⟩ : haulierref01_Reader))
def haulierref01_Reader_Number (p0 : haulierref01_Reader) : Option (Int × haulierref01_Reader) :=
(cut p0.B p0.At (p0.B.length : Int)).bind fun y5 =>
(haulierref01_Take y5).bind fun (x10, x11, x12) =>
((if p0.Bad = true then
some ((⟨p0.B, p0.At, p0.Bad⟩ : haulierref01_Reader), true)
else
some ((⟨p0.B, p0.At, p0.Bad⟩ : haulierref01_Reader), (!x12)) : Option (haulierref01_Reader × Bool))).bind fun (s21, x22) =>
if x22 = true then
some (0, (⟨s21.B, s21.At, true⟩ : haulierref01_Reader))
else
some (x10, (⟨s21.B, w64 (s21.At + x11), s21.Bad⟩ : haulierref01_Reader))
def haulierref01_Reader_Bytes (p0 : haulierref01_Reader) (p1 : Int) : Option ((List UInt8) × haulierref01_Reader) :=
(cut p0.B p0.At (p0.B.length : Int)).bind fun y5 =>
(haulierref01_Take y5).bind fun (x10, x11, x12) =>
((if p0.Bad = true then
some ((⟨p0.B, p0.At, p0.Bad⟩ : haulierref01_Reader), true)
else
if x12 = true then
if p1 < x10 then
some ((⟨p0.B, p0.At, p0.Bad⟩ : haulierref01_Reader), true)
else
(some (w64 ((w64 ((p0.B.length : Int) - p0.At)) - x11))).bind fun x55 =>
some ((⟨p0.B, p0.At, p0.Bad⟩ : haulierref01_Reader), (decide (x55 < x10)))
else
some ((⟨p0.B, p0.At, p0.Bad⟩ : haulierref01_Reader), true) : Option (haulierref01_Reader × Bool))).bind fun (s45, x46) =>
if x46 = true then
some (([] : List UInt8), (⟨s45.B, s45.At, true⟩ : haulierref01_Reader))
else
(cut s45.B (w64 (s45.At + x11)) (w64 ((w64 (s45.At + x11)) + x10))).bind fun y71 =>
if fits (([] : List UInt8).length + y71.length) 1 ∧ ([] : List UInt8).length + y71.length ≤ 140737488355328 then
some ((([] : List UInt8) ++ y71), (⟨s45.B, w64 (s45.At + (w64 (x11 + x10))), s45.Bad⟩ : haulierref01_Reader))
else none
def haulierref01_TakePacket (p0 : haulierref01_Reader) : Option (api_Packet × Bool × haulierref01_Reader) :=
(haulierref01_Reader_Byte (⟨p0.B, p0.At, p0.Bad⟩ : haulierref01_Reader)).bind fun (x7, s8) =>
(haulierref01_Reader_Number s8).bind fun (x15, s16) =>
(haulierref01_Reader_Number s16).bind fun (x21, s22) =>
((if (x7.toNat : Int) = 2 then
(haulierref01_Reader_Number s22).bind fun (x87, s88) =>
some (s88, x87, 0, ([] : List UInt8), false, 0, 0)
else
if (x7.toNat : Int) = 3 then
(haulierref01_Reader_Number s22).bind fun (x94, s95) =>
(haulierref01_Reader_Bytes s95 64).bind fun (x100, s101) =>
(haulierref01_Reader_Byte s101).bind fun (x109, s110) =>
some (s110, 0, x94, x100, (decide ((x109.toNat : Int) = 1)), 0, 0)
else
if (x7.toNat : Int) = 4 then
(haulierref01_Reader_Number s22).bind fun (x119, s120) =>
(haulierref01_Reader_Number s120).bind fun (x125, s126) =>
(haulierref01_Reader_Number s126).bind fun (x131, s132) =>
some (s132, x119, 0, ([] : List UInt8), false, x125, x131)
else
some (s22, 0, 0, ([] : List UInt8), false, 0, 0) : Option (haulierref01_Reader × Int × Int × (List UInt8) × Bool × Int × Int))).bind fun (s75, x76, x77, x78, x82, x83, x84) =>
(haulierref01_Plain (⟨(x7.toNat : Int), x15, x21, x76, x77, x78, x82, x83, x84⟩ : api_Packet)).bind fun (x139, x140) =>
if s75.Bad = true then
some ((⟨0, 0, 0, 0, 0, ([] : List UInt8), false, 0, 0⟩ : api_Packet), false, (⟨s75.B, s75.At, s75.Bad⟩ : haulierref01_Reader))
else
if x140 = true then
(cut s75.B p0.At s75.At).bind fun y155 =>
if (x139 == y155) = true then
some ((⟨(x7.toNat : Int), x15, x21, x76, x77, x78, x82, x83, x84⟩ : api_Packet), true, (⟨s75.B, s75.At, s75.Bad⟩ : haulierref01_Reader))
else
some ((⟨0, 0, 0, 0, 0, ([] : List UInt8), false, 0, 0⟩ : api_Packet), false, (⟨s75.B, s75.At, s75.Bad⟩ : haulierref01_Reader))
else
some ((⟨0, 0, 0, 0, 0, ([] : List UInt8), false, 0, 0⟩ : api_Packet), false, (⟨s75.B, s75.At, s75.Bad⟩ : haulierref01_Reader))
def haulierref01_Unpack (p0 : List UInt8) : Option (api_Packet × Bool) :=
(haulierref01_Open p0).bind fun (x3, x4) =>
if x4 = true then
(haulierref01_TakePacket (⟨x3, 0, false⟩ : haulierref01_Reader)).bind fun (x18, x19, s20) =>
if x19 = true then
if s20.At ≠ (x3.length : Int) then
some ((⟨0, 0, 0, 0, 0, ([] : List UInt8), false, 0, 0⟩ : api_Packet), false)
else
some ((⟨x18.Kind, x18.Path, x18.Number, x18.Of, x18.From, x18.Data, x18.Fin, x18.Seen, x18.Limit⟩ : api_Packet), true)
else
some ((⟨0, 0, 0, 0, 0, ([] : List UInt8), false, 0, 0⟩ : api_Packet), false)
else
some ((⟨0, 0, 0, 0, 0, ([] : List UInt8), false, 0, 0⟩ : api_Packet), false)
def haulierlaw06_PacketUnpacks (p0 : List UInt8) (p1 : api_Packet) (p2 : Int) (p3 : Int) (p4 : Int) (p5 : Bool) (p6 : Bool) : Option (Bool) :=
((if p6 = true then
some p0
else
(haulierkeep_Within p2 29).bind fun x112 =>
(haulierplay_Packet (⟨p1.Kind, p1.Path, p1.Number, p1.Of, p1.From, p1.Data, p1.Fin, p1.Seen, p1.Limit⟩ : api_Packet) x112).bind fun x117 =>
(haulierref01_Plain (⟨x117.Kind, x117.Path, x117.Number, x117.Of, x117.From, x117.Data, x117.Fin, x117.Seen, x117.Limit⟩ : api_Packet)).bind fun (x125, x126) =>
(some (w64 ((w64 (3 * (x125.length : Int))) + 1))).bind fun x139 =>
(haulierkeep_Within p3 x139).bind fun x141 =>
((if x141 < (x125.length : Int) then
(cut x125 0 x141).bind fun y156 =>
some y156
else
some x125 : Option ((List UInt8)))).bind fun x151 =>
(some (w64 ((w64 (20 * (x151.length : Int))) + 1))).bind fun x162 =>
(haulierkeep_Within p4 x162).bind fun x164 =>
if x164 < (w64 (8 * (x151.length : Int))) then
if (0 : Int) ≤ (w64 ((x164).tdiv 8)) ∧ (w64 ((x164).tdiv 8)) < (x151.length : Int) then
(x151[(w64 ((x164).tdiv 8) : Int).toNat]?).bind fun z175 =>
if (0 : Int) ≤ (w64 ((x164).tdiv 8)) ∧ (w64 ((x164).tdiv 8)) < (x151.length : Int) then
(some (x151.set (w64 ((x164).tdiv 8) : Int).toNat (z175 ^^^ (sl8 (1 : UInt8) ((u64of ((x164).tmod 8)).toNat : Int))))).bind fun x180 =>
(haulierkeep_Within (w64 ((p2).tdiv 29)) 3).bind fun x182 =>
(haulierkeep_Cut_byte p0 (w64 ((x182).tdiv 2))).bind fun x187 =>
if fits (x180.length + x187.length) 1 ∧ x180.length + x187.length ≤ 140737488355328 then
some (x180 ++ x187)
else none
else none
else none
else
(haulierkeep_Within (w64 ((p2).tdiv 29)) 3).bind fun x201 =>
(haulierkeep_Cut_byte p0 (w64 ((x201).tdiv 2))).bind fun x206 =>
if fits (x151.length + x206.length) 1 ∧ x151.length + x206.length ≤ 140737488355328 then
some (x151 ++ x206)
else none : Option ((List UInt8)))).bind fun x106 =>
(span_New x106).bind fun s222 =>
(haulierkeep_Copy_byte x106).bind fun x229 =>
(packet_Take s222).bind fun (x239, x240, s241) =>
(haulierref01_TakePacket (⟨x229, 0, false⟩ : haulierref01_Reader)).bind fun (x254, x255, s256) =>
((if (x240 == x255) = true then
(haulierref01_Same (⟨x239.Kind, x239.Path, x239.Number, x239.Of, x239.From, x239.Data, x239.Fin, x239.Seen, x239.Limit⟩ : api_Packet) (⟨x254.Kind, x254.Path, x254.Number, x254.Of, x254.From, x254.Data, x254.Fin, x254.Seen, x254.Limit⟩ : api_Packet)).bind fun x322 =>
if x322 = true then
if x240 = true then
(span_Reader_At s241).bind fun (x329, s330) =>
some (decide (x329 ≠ s256.At))
else
some false
else
some true
else
some true : Option (Bool))).bind fun x316 =>
if x316 = true then
some false
else
((if p5 = true then
(haulierref01_Seal x106).bind fun x361 =>
some x361
else
some x106 : Option ((List UInt8)))).bind fun x355 =>
(haulierkeep_Lend x355).bind fun x374 =>
(packet_Unpack x374).bind fun (x383, x384) =>
(haulierref01_Unpack x355).bind fun (x394, x395) =>
if ((decide (x384 = 0)) == x395) = true then
if x395 = true then
(haulierref01_Same (⟨x383.Kind, x383.Path, x383.Number, x383.Of, x383.From, x383.Data, x383.Fin, x383.Seen, x383.Limit⟩ : api_Packet) (⟨x394.Kind, x394.Path, x394.Number, x394.Of, x394.From, x394.Data, x394.Fin, x394.Seen, x394.Limit⟩ : api_Packet)).bind fun x407 =>
if x407 = true then
(haulierkeep_Intact x374 x355).bind fun x413 =>
if x413 = true then
(haulierlaw06_wakes).bind fun x419 =>
some x419
else
some false
else
some false
else
if x384 = 2 then
(haulierref01_Same (⟨x383.Kind, x383.Path, x383.Number, x383.Of, x383.From, x383.Data, x383.Fin, x383.Seen, x383.Limit⟩ : api_Packet) (⟨x394.Kind, x394.Path, x394.Number, x394.Of, x394.From, x394.Data, x394.Fin, x394.Seen, x394.Limit⟩ : api_Packet)).bind fun x425 =>
if x425 = true then
(haulierkeep_Intact x374 x355).bind fun x431 =>
if x431 = true then
(haulierlaw06_wakes).bind fun x437 =>
some x437
else
some false
else
some false
else
some false
else
some false
end Go.Proofs.Ytgobccnphhljcaa
