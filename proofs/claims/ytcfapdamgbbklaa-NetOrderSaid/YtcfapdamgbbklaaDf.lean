/- Printed by a program of this session: plain functions of the Go functions. -/
import Derived.Test.YtcfapdamgbbklaaDt
import Derived.Test.YtcfapdamgbbklaaDu
namespace Go.Proofs.Ytcfapdamgbbklaa
set_option linter.unusedVariables false
def net_New : Option (net_Net) :=
some (⟨([] : List net_bag), ([] : List net_bag)⟩ : net_Net)
def haulierkeep_Within (p0 : Int) (p1 : Int) : Option (Int) :=
if p1 < 1 then
some 0
else
if ¬ p1 = 0 then
if ((p0).tmod p1) < 0 then
some (w64 (((p0).tmod p1) + p1))
else
some ((p0).tmod p1)
else none
def net_side (p0 : Int) : Option (Bool) :=
if p0 = 0 then
some true
else
some (decide (p0 = 1))
def packet_upto (p0 : Int) (p1 : Int) : Option (Bool) :=
if 0 ≤ p0 then
some (decide (p0 ≤ p1))
else
some false
def packet_fields (p0 : api_Packet) : Option (Bool) :=
if p0.Kind = 2 then
(packet_upto p0.Of 65535).bind fun x4 =>
some x4
else
if p0.Kind = 3 then
(packet_upto p0.From 4096).bind fun x10 =>
if x10 = true then
if (p0.Data.length : Int) ≤ 64 then
some (decide ((p0.Data.length : Int) ≤ (w64 (4096 - p0.From))))
else
some false
else
some false
else
if p0.Kind = 4 then
(packet_upto p0.Of 65535).bind fun x18 =>
if x18 = true then
(packet_upto p0.Seen 4097).bind fun x24 =>
if x24 = true then
(packet_upto p0.Limit 4496).bind fun x30 =>
some x30
else
some false
else
some false
else
some (decide (p0.Kind = 1))
def packet_bare (p0 : api_Packet) : Option (api_Packet) :=
if p0.Kind = 2 then
some (⟨p0.Kind, p0.Path, p0.Number, p0.Of, 0, ([] : List UInt8), false, 0, 0⟩ : api_Packet)
else
if p0.Kind = 3 then
some (⟨p0.Kind, p0.Path, p0.Number, 0, p0.From, p0.Data, p0.Fin, 0, 0⟩ : api_Packet)
else
if p0.Kind = 4 then
some (⟨p0.Kind, p0.Path, p0.Number, p0.Of, 0, ([] : List UInt8), false, p0.Seen, p0.Limit⟩ : api_Packet)
else
some (⟨p0.Kind, p0.Path, p0.Number, 0, 0, ([] : List UInt8), false, 0, 0⟩ : api_Packet)
def packet_Same (p0 : api_Packet) (p1 : api_Packet) : Option (Bool) :=
((if p0.Kind = p1.Kind then
if p0.Path = p1.Path then
if p0.Number = p1.Number then
if p0.Of = p1.Of then
some (decide (p0.From = p1.From))
else
some false
else
some false
else
some false
else
some false : Option (Bool))).bind fun x13 =>
if x13 = true then
(bytes_Equal p0.Data p1.Data).bind fun x22 =>
if x22 = true then
if (p0.Fin == p1.Fin) = true then
if p0.Seen = p1.Seen then
some (decide (p0.Limit = p1.Limit))
else
some false
else
some false
else
some false
else
some false
def packet_Check (p0 : api_Packet) : Option (Int) :=
(packet_fields (⟨p0.Kind, p0.Path, p0.Number, p0.Of, p0.From, p0.Data, p0.Fin, p0.Seen, p0.Limit⟩ : api_Packet)).bind fun x3 =>
if x3 = true then
(packet_upto p0.Path 2).bind fun x9 =>
if x9 = true then
(packet_upto p0.Number 65535).bind fun x15 =>
if x15 = true then
(packet_bare (⟨p0.Kind, p0.Path, p0.Number, p0.Of, p0.From, p0.Data, p0.Fin, p0.Seen, p0.Limit⟩ : api_Packet)).bind fun x21 =>
(packet_Same (⟨p0.Kind, p0.Path, p0.Number, p0.Of, p0.From, p0.Data, p0.Fin, p0.Seen, p0.Limit⟩ : api_Packet) (⟨x21.Kind, x21.Path, x21.Number, x21.Of, x21.From, x21.Data, x21.Fin, x21.Seen, x21.Limit⟩ : api_Packet)).bind fun x29 =>
if x29 = true then
some 0
else
some 1
else
some 1
else
some 1
else
some 1
def vint_Size (p0 : Int) : Option (Int) :=
if p0 < 0 then
some 0
else
if 4611686018427387903 < p0 then
some 0
else
if p0 < 64 then
some 1
else
if p0 < 16384 then
some 2
else
if p0 < 1073741824 then
some 4
else
some 8
def vint_mark (p0 : Int) : Option (UInt8) :=
if p0 = 2 then
some (64 : UInt8)
else
if p0 = 4 then
some (128 : UInt8)
else
if p0 = 8 then
some (192 : UInt8)
else
some (0 : UInt8)
def vint_Put_l0 (p0 : Int) (x1 : Int) : Nat → (List UInt8) → Int → Option ((List UInt8))
| 0, _, _ => none
| k0 + 1, x7, x10 =>
if 0 ≤ x10 then
if 0 ≤ (w64 (8 * x10)) then
if fits (x7.length + ([(u8of (sr64 p0 (w64 (8 * x10))))] : List UInt8).length) 1 ∧ x7.length + ([(u8of (sr64 p0 (w64 (8 * x10))))] : List UInt8).length ≤ 140737488355328 then
(some (x7 ++ ([(u8of (sr64 p0 (w64 (8 * x10))))] : List UInt8) : List UInt8)).bind fun x32 =>
vint_Put_l0 p0 x1 k0 x32 (w64 (x10 - 1))
else none
else none
else
if 0 < x1 then
if (0 : Int) ≤ 0 ∧ 0 < (x7.length : Int) then
(x7[(0 : Int).toNat]?).bind fun z40 =>
(vint_mark x1).bind fun x42 =>
if (0 : Int) ≤ 0 ∧ 0 < (x7.length : Int) then
(some (x7.set (0 : Int).toNat (z40 ||| x42))).bind fun x50 =>
some x50
else none
else none
else
some x7
def vint_Put (p0 : Int) : Option ((List UInt8)) :=
(vint_Size p0).bind fun x1 =>
vint_Put_l0 p0 x1 bigN ([] : List UInt8) (w64 (x1 - 1))
def slices_Concat_sbyte_byte_l0 (p0 : List (List UInt8)) : Nat → Int → Int → Option (Int)
| 0, _, _ => none
| k0 + 1, x28, x29 =>
if x29 < (p0.length : Int) then
(idx p0 x29).bind fun z44 =>
if (w64 (x28 + (z44.length : Int))) < 0 then
none
else
slices_Concat_sbyte_byte_l0 p0 k0 (w64 (x28 + (z44.length : Int))) (w64 (x29 + 1))
else
some x28
def slices_Concat_sbyte_byte_l1 (p0 : List (List UInt8)) : Nat → (List UInt8) → Int → Option ((List UInt8))
| 0, _, _ => none
| k1 + 1, x63, x66 =>
if x66 < (p0.length : Int) then
(idx p0 x66).bind fun z83 =>
if fits (x63.length + z83.length) 1 ∧ x63.length + z83.length ≤ 140737488355328 then
slices_Concat_sbyte_byte_l1 p0 k1 (x63 ++ z83) (w64 (x66 + 1))
else none
else
some x63
def slices_Concat_sbyte_byte (p0 : List (List UInt8)) : Option ((List UInt8)) :=
((slices_Concat_sbyte_byte_l0 p0 bigN 0 0 : Option (Int))).bind fun x26 =>
(slices_Grow_sbyte_byte ([] : List UInt8) x26).bind fun x55 =>
slices_Concat_sbyte_byte_l1 p0 bigN x55 0
def span_Pack (p0 : List UInt8) : Option ((List UInt8)) :=
(vint_Put (p0.length : Int)).bind fun x1 =>
(slices_Concat_sbyte_byte ([x1, p0] : List (List UInt8))).bind fun x18 =>
some x18
def packet_truth (p0 : Bool) : Option (UInt8) :=
if p0 = true then
some (1 : UInt8)
else
some (0 : UInt8)
def packet_Plain (p0 : api_Packet) : Option ((List UInt8) × Int) :=
(packet_Check (⟨p0.Kind, p0.Path, p0.Number, p0.Of, p0.From, p0.Data, p0.Fin, p0.Seen, p0.Limit⟩ : api_Packet)).bind fun x3 =>
if x3 ≠ 0 then
some (([] : List UInt8), x3)
else
(vint_Put p0.Path).bind fun x13 =>
(vint_Put p0.Number).bind fun x21 =>
(some ([([(u8of p0.Kind)] : List UInt8), x13, x21] : List (List UInt8))).bind fun x41 =>
(slices_Concat_sbyte_byte x41).bind fun x46 =>
if p0.Kind = 2 then
(vint_Put p0.Of).bind fun x60 =>
if fits (x46.length + x60.length) 1 ∧ x46.length + x60.length ≤ 140737488355328 then
some ((x46 ++ x60), 0)
else none
else
if p0.Kind = 3 then
(vint_Put p0.From).bind fun x72 =>
(span_Pack p0.Data).bind fun x80 =>
(slices_Concat_sbyte_byte ([x46, x72, x80] : List (List UInt8))).bind fun x103 =>
(packet_truth p0.Fin).bind fun x111 =>
if fits (x103.length + ([x111] : List UInt8).length) 1 ∧ x103.length + ([x111] : List UInt8).length ≤ 140737488355328 then
some ((x103 ++ ([x111] : List UInt8)), 0)
else none
else
if p0.Kind = 4 then
(vint_Put p0.Of).bind fun x128 =>
(vint_Put p0.Seen).bind fun x136 =>
(vint_Put p0.Limit).bind fun x144 =>
(slices_Concat_sbyte_byte ([x46, x128, x136, x144] : List (List UInt8))).bind fun x170 =>
some (x170, 0)
else
some (x46, 0)
def packet_Pack (p0 : api_Packet) : Option ((List UInt8) × Int) :=
(packet_Plain (⟨p0.Kind, p0.Path, p0.Number, p0.Of, p0.From, p0.Data, p0.Fin, p0.Seen, p0.Limit⟩ : api_Packet)).bind fun (x3, x4) =>
if x4 ≠ 0 then
some (([] : List UInt8), x4)
else
(sum_Seal x3).bind fun x17 =>
some (x17, 0)
def net_Net_Len (p0 : net_Net) (p1 : Int) : Option (Int × net_Net) :=
(net_side p1).bind fun x2 =>
if x2 = true then
if p1 = 0 then
some ((p0.l_0.length : Int), (⟨p0.l_0, p0.l_1⟩ : net_Net))
else
if p1 = 1 then
some ((p0.l_1.length : Int), (⟨p0.l_0, p0.l_1⟩ : net_Net))
else
none
else
some (0, p0)
def net_Net_Put (p0 : net_Net) (p1 : Int) (p2 : api_Packet) : Option (Int × net_Net) :=
(net_side p1).bind fun x4 =>
if x4 = true then
(packet_Pack (⟨p2.Kind, p2.Path, p2.Number, p2.Of, p2.From, p2.Data, p2.Fin, p2.Seen, p2.Limit⟩ : api_Packet)).bind fun (x10, x11) =>
if x11 ≠ 0 then
some (x11, p0)
else
(net_Net_Len p0 p1).bind fun (x20, s21) =>
if 200 ≤ x20 then
some (5, s21)
else
if p1 = 0 then
if fits (s21.l_0.length + ([(⟨x10, false⟩ : net_bag)] : List net_bag).length) 32 ∧ s21.l_0.length + ([(⟨x10, false⟩ : net_bag)] : List net_bag).length ≤ 140737488355328 then
(some (s21.l_0 ++ ([(⟨x10, false⟩ : net_bag)] : List net_bag) : List net_bag)).bind fun x48 =>
some (0, (⟨x48, s21.l_1⟩ : net_Net))
else none
else
if p1 = 1 then
if fits (s21.l_1.length + ([(⟨x10, false⟩ : net_bag)] : List net_bag).length) 32 ∧ s21.l_1.length + ([(⟨x10, false⟩ : net_bag)] : List net_bag).length ≤ 140737488355328 then
(some (s21.l_1 ++ ([(⟨x10, false⟩ : net_bag)] : List net_bag) : List net_bag)).bind fun x79 =>
some (0, (⟨s21.l_0, x79⟩ : net_Net))
else none
else
none
else
some (1, p0)
def net_Net_there (p0 : net_Net) (p1 : Int) (p2 : Int) : Option (Bool × net_Net) :=
if 0 ≤ p2 then
(net_Net_Len p0 p1).bind fun (x3, s4) =>
some ((decide (p2 < x3)), s4)
else
some (false, p0)
def net_Net_Get (p0 : net_Net) (p1 : Int) (p2 : Int) : Option ((List UInt8) × Bool × net_Net) :=
(net_Net_there p0 p1 p2).bind fun (x2, s3) =>
if x2 = true then
if p1 = 0 then
if (0 : Int) ≤ p2 ∧ p2 < (s3.l_0.length : Int) then
(s3.l_0[(p2 : Int).toNat]?).bind fun z23 =>
(bytes_Clone z23.b_).bind fun x27 =>
some (x27, true, (⟨s3.l_0, s3.l_1⟩ : net_Net))
else none
else
if p1 = 1 then
if (0 : Int) ≤ p2 ∧ p2 < (s3.l_1.length : Int) then
(s3.l_1[(p2 : Int).toNat]?).bind fun z49 =>
(bytes_Clone z49.b_).bind fun x53 =>
some (x53, true, (⟨s3.l_0, s3.l_1⟩ : net_Net))
else none
else
none
else
some (([] : List UInt8), false, s3)
def slices_Delete_snet_bag_net_bag (p0 : List net_bag) (p1 : Int) (p2 : Int) : Option ((List net_bag)) :=
if (0 : Int) ≤ p1 ∧ p1 ≤ p2 ∧ p2 ≤ (p0.length : Int) ∧ (p0.length : Int) ≤ p0.length then
if p1 = p2 then
some p0
else
if (0 : Int) ≤ 0 ∧ 0 ≤ p1 ∧ p1 ≤ (p0.length : Int) then
if (0 : Int) ≤ p2 ∧ p2 ≤ (p0.length : Int) ∧ (p0.length : Int) ≤ (p0.length : Int) then
if (p1 : Int).toNat < (p2 : Int).toNat ∧ (p2 : Int).toNat ≤ ((p0.length : Int) : Int).toNat ∧ ((p0.length : Int) : Int).toNat = p0.length ∧ p0.length ≤ 140737488355328 then
if (0 : Int) ≤ ((p0.take ((p1 : Int).toNat) ++ p0.drop ((p2 : Int).toNat)).length : Int) ∧ ((p0.take ((p1 : Int).toNat) ++ p0.drop ((p2 : Int).toNat)).length : Int) ≤ (p0.length : Int) ∧ (p0.length : Int) ≤ ((((p0.length : Int) : Int).toNat) : Nat) then
some (p0.take ((p1 : Int).toNat) ++ p0.drop ((p2 : Int).toNat))
else none
else none
else none
else none
else none
def net_Net_Take (p0 : net_Net) (p1 : Int) (p2 : Int) : Option ((List UInt8) × Bool × net_Net) :=
(net_Net_Get p0 p1 p2).bind fun (x2, x3, s4) =>
if x3 = true then
if p1 = 0 then
(slices_Delete_snet_bag_net_bag s4.l_0 p2 (w64 (p2 + 1))).bind fun x20 =>
some (x2, x3, (⟨x20, s4.l_1⟩ : net_Net))
else
if p1 = 1 then
(slices_Delete_snet_bag_net_bag s4.l_1 p2 (w64 (p2 + 1))).bind fun x43 =>
some (x2, x3, (⟨s4.l_0, x43⟩ : net_Net))
else
none
else
some (x2, x3, s4)
def net_Net_Again (p0 : net_Net) (p1 : Int) (p2 : Int) : Option (Bool × net_Net) :=
(((net_Net_there p0 p1 p2).bind fun (x31, s32) =>
if x31 = true then
(net_Net_Len s32 p1).bind fun (x38, s39) =>
some (s39, (decide (200 ≤ x38)))
else
some (s32, true) : Option (net_Net × Bool))).bind fun (s28, x29) =>
if x29 = true then
some (false, s28)
else
if p1 = 0 then
if (0 : Int) ≤ p2 ∧ p2 < (s28.l_0.length : Int) then
(s28.l_0[(p2 : Int).toNat]?).bind fun z59 =>
if fits (s28.l_0.length + ([(⟨z59.b_, z59.spoilt_⟩ : net_bag)] : List net_bag).length) 32 ∧ s28.l_0.length + ([(⟨z59.b_, z59.spoilt_⟩ : net_bag)] : List net_bag).length ≤ 140737488355328 then
(some (s28.l_0 ++ ([(⟨z59.b_, z59.spoilt_⟩ : net_bag)] : List net_bag) : List net_bag)).bind fun x70 =>
some (true, (⟨x70, s28.l_1⟩ : net_Net))
else none
else none
else
if p1 = 1 then
if (0 : Int) ≤ p2 ∧ p2 < (s28.l_1.length : Int) then
(s28.l_1[(p2 : Int).toNat]?).bind fun z92 =>
if fits (s28.l_1.length + ([(⟨z92.b_, z92.spoilt_⟩ : net_bag)] : List net_bag).length) 32 ∧ s28.l_1.length + ([(⟨z92.b_, z92.spoilt_⟩ : net_bag)] : List net_bag).length ≤ 140737488355328 then
(some (s28.l_1 ++ ([(⟨z92.b_, z92.spoilt_⟩ : net_bag)] : List net_bag) : List net_bag)).bind fun x103 =>
some (true, (⟨s28.l_0, x103⟩ : net_Net))
else none
else none
else
none
def net_Net_Spoil (p0 : net_Net) (p1 : Int) (p2 : Int) (p3 : Int) (p4 : UInt32) : Option (Bool × net_Net) :=
(((net_Net_there p0 p1 p2).bind fun (x84, s85) =>
if x84 = true then
if p1 = 0 then
if (0 : Int) ≤ p2 ∧ p2 < (s85.l_0.length : Int) then
(s85.l_0[(p2 : Int).toNat]?).bind fun z105 =>
some ((⟨s85.l_0, s85.l_1⟩ : net_Net), 0, z105.spoilt_)
else none
else
if p1 = 1 then
if (0 : Int) ≤ p2 ∧ p2 < (s85.l_1.length : Int) then
(s85.l_1[(p2 : Int).toNat]?).bind fun z121 =>
some ((⟨s85.l_0, s85.l_1⟩ : net_Net), 1, z121.spoilt_)
else none
else
none
else
some (s85, p1, true) : Option (net_Net × Int × Bool))).bind fun (s80, x81, x82) =>
if x82 = true then
some (false, s80)
else
if x81 = 0 then
if (0 : Int) ≤ p2 ∧ p2 < (s80.l_0.length : Int) then
(s80.l_0[(p2 : Int).toNat]?).bind fun z140 =>
(sum_Spoil z140.b_ p3 p4).bind fun x144 =>
if (0 : Int) ≤ p2 ∧ p2 < (s80.l_0.length : Int) then
(s80.l_0[(p2 : Int).toNat]?).bind fun z159 =>
(bytes_Equal x144 z159.b_).bind fun x166 =>
if x166 = true then
some (false, (⟨s80.l_0, s80.l_1⟩ : net_Net))
else
if (0 : Int) ≤ p2 ∧ p2 < (s80.l_0.length : Int) then
(some (s80.l_0.set (p2 : Int).toNat (⟨x144, true⟩ : net_bag))).bind fun x175 =>
some (true, (⟨x175, s80.l_1⟩ : net_Net))
else none
else none
else none
else
if x81 = 1 then
if (0 : Int) ≤ p2 ∧ p2 < (s80.l_1.length : Int) then
(s80.l_1[(p2 : Int).toNat]?).bind fun z191 =>
(sum_Spoil z191.b_ p3 p4).bind fun x195 =>
if (0 : Int) ≤ p2 ∧ p2 < (s80.l_1.length : Int) then
(s80.l_1[(p2 : Int).toNat]?).bind fun z210 =>
(bytes_Equal x195 z210.b_).bind fun x217 =>
if x217 = true then
some (false, (⟨s80.l_0, s80.l_1⟩ : net_Net))
else
if (0 : Int) ≤ p2 ∧ p2 < (s80.l_1.length : Int) then
(some (s80.l_1.set (p2 : Int).toNat (⟨x195, true⟩ : net_bag))).bind fun x226 =>
some (true, (⟨s80.l_0, x226⟩ : net_Net))
else none
else none
else none
else
none
def haulierlaw20_wakes : Option (Bool) :=
(net_New).bind fun s1 =>
(((net_Net_Len s1 0).bind fun (x51, s52) =>
if x51 ≠ 0 then
some (s52, true)
else
(net_Net_Put s52 1 (⟨1, 0, 0, 0, 0, ([] : List UInt8), false, 0, 0⟩ : api_Packet)).bind fun (x58, s59) =>
if x58 ≠ 0 then
some (s59, true)
else
(net_Net_Len s59 1).bind fun (x65, s66) =>
some (s66, (decide (x65 ≠ 1))) : Option (net_Net × Bool))).bind fun (s48, x49) =>
if x49 = true then
some false
else
(net_Net_Take s48 1 0).bind fun (x74, x75, s76) =>
if x75 = true then
if (x74.length : Int) = 7 then
(net_Net_Len s76 1).bind fun (x86, s87) =>
some (decide (x86 = 0))
else
some false
else
some false
def haulierlaw20_NetBounds_l0 : Nat → net_Net → Int → Option (Sum (Bool) (net_Net))
| 0, _, _ => none
| k0 + 1, s56, x57 =>
if x57 < 200 then
(net_Net_Put s56 0 (⟨1, 0, x57, 0, 0, ([] : List UInt8), false, 0, 0⟩ : api_Packet)).bind fun (x70, s71) =>
if x70 ≠ 0 then
some (Sum.inl false)
else
haulierlaw20_NetBounds_l0 k0 s71 (w64 (x57 + 1))
else
some (Sum.inr s56)
def haulierlaw20_NetBounds (p0 : Int) : Option (Bool) :=
(net_New).bind fun s1 =>
(haulierkeep_Within p0 100).bind fun x8 =>
((haulierlaw20_NetBounds_l0 bigN s1 0 : Option (Sum (Bool) (net_Net)))).bind fun j => match j with
| .inl r => some r
| .inr s44 =>
(net_Net_Get s44 (w64 (2 + x8)) 0).bind fun (x79, x80, s81) =>
(net_Net_Take s81 (w64 (0 - (w64 (2 + x8)))) 0).bind fun (x89, x90, s91) =>
(((net_Net_Put s91 0 (⟨1, 0, 0, 0, 0, ([] : List UInt8), false, 0, 0⟩ : api_Packet)).bind fun (x244, s245) =>
if x244 ≠ 5 then
some (s245, true)
else
(net_Net_Again s245 0 5).bind fun (x251, s252) =>
if x251 = true then
some (s252, true)
else
(net_Net_Put s252 1 (⟨1, 0, 0, 0, 0, ([] : List UInt8), false, 0, 0⟩ : api_Packet)).bind fun (x258, s259) =>
if x258 ≠ 0 then
some (s259, true)
else
(net_Net_Put s259 (w64 (2 + x8)) (⟨1, 0, 0, 0, 0, ([] : List UInt8), false, 0, 0⟩ : api_Packet)).bind fun (x265, s266) =>
if x265 ≠ 1 then
some (s266, true)
else
(net_Net_Put s266 (-1) (⟨1, 0, 0, 0, 0, ([] : List UInt8), false, 0, 0⟩ : api_Packet)).bind fun (x272, s273) =>
if x272 ≠ 1 then
some (s273, true)
else
(net_Net_Put s273 1 (⟨0, 0, 0, 0, 0, ([] : List UInt8), false, 0, 0⟩ : api_Packet)).bind fun (x279, s280) =>
if x279 ≠ 1 then
some (s280, true)
else
(net_Net_Len s280 (w64 (2 + x8))).bind fun (x286, s287) =>
if x286 ≠ 0 then
some (s287, true)
else
(net_Net_Len s287 (w64 (0 - (w64 (2 + x8))))).bind fun (x293, s294) =>
if x293 ≠ 0 then
some (s294, true)
else
if x80 = true then
some (s294, true)
else
if x90 = true then
some (s294, true)
else
(net_Net_Again s294 (w64 (2 + x8)) 0).bind fun (x302, s303) =>
if x302 = true then
some (s303, true)
else
(net_Net_Spoil s303 (w64 (2 + x8)) 0 0 (1 : UInt32)).bind fun (x309, s310) =>
some (s310, x309) : Option (net_Net × Bool))).bind fun (s241, x242) =>
if x242 = true then
some false
else
(net_Net_Take s241 0 199).bind fun (x318, x319, s320) =>
if x319 = true then
(net_Net_Len s320 0).bind fun (x329, s330) =>
if x329 = 199 then
(net_Net_Again s330 0 5).bind fun (x336, s337) =>
if x336 = true then
(net_Net_Len s337 0).bind fun (x343, s344) =>
if x343 = 200 then
(net_Net_Len s344 1).bind fun (x350, s351) =>
if x350 = 1 then
(haulierlaw20_wakes).bind fun x357 =>
some x357
else
some false
else
some false
else
some false
else
some false
else
some false
def span_New (p0 : List UInt8) : Option (span_Reader) :=
(bytes_Clone p0).bind fun x1 =>
some (⟨x1, 0, false⟩ : span_Reader)
def span_Reader_Left (p0 : span_Reader) : Option (Int × span_Reader) :=
(some (w64 ((p0.b_.length : Int) - p0.at_))).bind fun x5 =>
some (x5, (⟨p0.b_, p0.at_, p0.bad_⟩ : span_Reader))
def span_Reader_Byte (p0 : span_Reader) : Option (UInt8 × span_Reader) :=
((if p0.bad_ = true then
some ((⟨p0.b_, p0.at_, p0.bad_⟩ : span_Reader), true)
else
(span_Reader_Left (⟨p0.b_, p0.at_, p0.bad_⟩ : span_Reader)).bind fun (x29, s30) =>
some (s30, (decide (x29 = 0))) : Option (span_Reader × Bool))).bind fun (s22, x23) =>
if x23 = true then
some ((0 : UInt8), (⟨s22.b_, s22.at_, true⟩ : span_Reader))
else
(idx s22.b_ (w64 ((w64 (s22.at_ + 1)) - 1))).bind fun z44 =>
some (z44, (⟨s22.b_, w64 (s22.at_ + 1), s22.bad_⟩ : span_Reader))
def vint_Take_l0 (y15 : List UInt8) : Nat → Int → Int → Option (Int)
| 0, _, _ => none
| k0 + 1, x45, x46 =>
if x46 < (y15.length : Int) then
(idx y15 x46).bind fun z60 =>
(some (bit64 .or (sl64 x45 8) (z60.toNat : Int))).bind fun x66 =>
vint_Take_l0 y15 k0 x66 (w64 (x46 + 1))
else
some x45
def vint_Take (p0 : List UInt8) : Option (Int × Int × Bool) :=
if (p0.length : Int) = 0 then
some (0, 0, false)
else
(idx p0 0).bind fun z2 =>
if (p0.length : Int) < (sl64 1 ((sr8 z2 6).toNat : Int)) then
some (0, 0, false)
else
(idx p0 0).bind fun z9 =>
(cut p0 1 (sl64 1 ((sr8 z2 6).toNat : Int))).bind fun y15 =>
((vint_Take_l0 y15 bigN ((z9 &&& (63 : UInt8)).toNat : Int) 0 : Option (Int))).bind fun x43 =>
(vint_Put x43).bind fun x70 =>
(cut p0 0 (sl64 1 ((sr8 z2 6).toNat : Int))).bind fun y78 =>
(bytes_Equal x70 y78).bind fun x86 =>
if x86 = true then
some (x43, sl64 1 ((sr8 z2 6).toNat : Int), true)
else
some (0, 0, false)
def span_Reader_Number (p0 : span_Reader) : Option (Int × span_Reader) :=
(cut p0.b_ p0.at_ (p0.b_.length : Int)).bind fun y5 =>
(vint_Take y5).bind fun (x10, x11, x12) =>
((if p0.bad_ = true then
some ((⟨p0.b_, p0.at_, p0.bad_⟩ : span_Reader), true)
else
some ((⟨p0.b_, p0.at_, p0.bad_⟩ : span_Reader), (!x12)) : Option (span_Reader × Bool))).bind fun (s21, x22) =>
if x22 = true then
some (0, (⟨s21.b_, s21.at_, true⟩ : span_Reader))
else
some (x10, (⟨s21.b_, w64 (s21.at_ + x11), s21.bad_⟩ : span_Reader))
def span_Reader_Bytes (p0 : span_Reader) (p1 : Int) : Option ((List UInt8) × span_Reader) :=
(cut p0.b_ p0.at_ (p0.b_.length : Int)).bind fun y5 =>
(vint_Take y5).bind fun (x10, x11, x12) =>
((if p0.bad_ = true then
some ((⟨p0.b_, p0.at_, p0.bad_⟩ : span_Reader), true)
else
if x12 = true then
if p1 < x10 then
some ((⟨p0.b_, p0.at_, p0.bad_⟩ : span_Reader), true)
else
(span_Reader_Left (⟨p0.b_, p0.at_, p0.bad_⟩ : span_Reader)).bind fun (x43, s44) =>
some (s44, (decide ((w64 (x43 - x11)) < x10)))
else
some ((⟨p0.b_, p0.at_, p0.bad_⟩ : span_Reader), true) : Option (span_Reader × Bool))).bind fun (s37, x38) =>
if x38 = true then
some (([] : List UInt8), (⟨s37.b_, s37.at_, true⟩ : span_Reader))
else
(cut s37.b_ (w64 (s37.at_ + x11)) (w64 ((w64 (s37.at_ + x11)) + x10))).bind fun y59 =>
(bytes_Clone y59).bind fun x64 =>
some (x64, (⟨s37.b_, w64 ((w64 (s37.at_ + x11)) + x10), s37.bad_⟩ : span_Reader))
def span_Reader_Bad (p0 : span_Reader) : Option (Bool × span_Reader) :=
some (p0.bad_, (⟨p0.b_, p0.at_, p0.bad_⟩ : span_Reader))
def packet_Take (p0 : span_Reader) : Option (api_Packet × Bool × span_Reader) :=
(span_Reader_Byte p0).bind fun (x4, s5) =>
(span_Reader_Number s5).bind fun (x10, s11) =>
(span_Reader_Number s11).bind fun (x16, s17) =>
if (x4.toNat : Int) = 2 then
(span_Reader_Number s17).bind fun (x25, s26) =>
(span_Reader_Bad s26).bind fun (x31, s32) =>
if x31 = true then
some ((⟨0, 0, 0, 0, 0, ([] : List UInt8), false, 0, 0⟩ : api_Packet), false, s32)
else
(packet_Check (⟨(x4.toNat : Int), x10, x16, x25, 0, ([] : List UInt8), false, 0, 0⟩ : api_Packet)).bind fun x38 =>
if x38 ≠ 0 then
some ((⟨0, 0, 0, 0, 0, ([] : List UInt8), false, 0, 0⟩ : api_Packet), false, s32)
else
some ((⟨(x4.toNat : Int), x10, x16, x25, 0, ([] : List UInt8), false, 0, 0⟩ : api_Packet), true, s32)
else
if (x4.toNat : Int) = 3 then
(span_Reader_Number s17).bind fun (x45, s46) =>
(span_Reader_Bytes s46 64).bind fun (x51, s52) =>
(span_Reader_Byte s52).bind fun (x60, s61) =>
if 1 < (x60.toNat : Int) then
some ((⟨0, 0, 0, 0, 0, ([] : List UInt8), false, 0, 0⟩ : api_Packet), false, s61)
else
(span_Reader_Bad s61).bind fun (x67, s68) =>
if x67 = true then
some ((⟨0, 0, 0, 0, 0, ([] : List UInt8), false, 0, 0⟩ : api_Packet), false, s68)
else
(packet_Check (⟨(x4.toNat : Int), x10, x16, 0, x45, x51, (decide ((x60.toNat : Int) = 1)), 0, 0⟩ : api_Packet)).bind fun x77 =>
if x77 ≠ 0 then
some ((⟨0, 0, 0, 0, 0, ([] : List UInt8), false, 0, 0⟩ : api_Packet), false, s68)
else
some ((⟨(x4.toNat : Int), x10, x16, 0, x45, x51, (decide ((x60.toNat : Int) = 1)), 0, 0⟩ : api_Packet), true, s68)
else
if (x4.toNat : Int) = 4 then
(span_Reader_Number s17).bind fun (x84, s85) =>
(span_Reader_Number s85).bind fun (x90, s91) =>
(span_Reader_Number s91).bind fun (x96, s97) =>
(span_Reader_Bad s97).bind fun (x102, s103) =>
if x102 = true then
some ((⟨0, 0, 0, 0, 0, ([] : List UInt8), false, 0, 0⟩ : api_Packet), false, s103)
else
(packet_Check (⟨(x4.toNat : Int), x10, x16, x84, 0, ([] : List UInt8), false, x90, x96⟩ : api_Packet)).bind fun x109 =>
if x109 ≠ 0 then
some ((⟨0, 0, 0, 0, 0, ([] : List UInt8), false, 0, 0⟩ : api_Packet), false, s103)
else
some ((⟨(x4.toNat : Int), x10, x16, x84, 0, ([] : List UInt8), false, x90, x96⟩ : api_Packet), true, s103)
else
(span_Reader_Bad s17).bind fun (x115, s116) =>
if x115 = true then
some ((⟨0, 0, 0, 0, 0, ([] : List UInt8), false, 0, 0⟩ : api_Packet), false, s116)
else
(packet_Check (⟨(x4.toNat : Int), x10, x16, 0, 0, ([] : List UInt8), false, 0, 0⟩ : api_Packet)).bind fun x122 =>
if x122 ≠ 0 then
some ((⟨0, 0, 0, 0, 0, ([] : List UInt8), false, 0, 0⟩ : api_Packet), false, s116)
else
some ((⟨(x4.toNat : Int), x10, x16, 0, 0, ([] : List UInt8), false, 0, 0⟩ : api_Packet), true, s116)
def packet_Unpack (p0 : List UInt8) : Option (api_Packet × Int) :=
(sum_Open p0).bind fun (x3, x4) =>
if x4 = true then
(span_New x3).bind fun s16 =>
(packet_Take s16).bind fun (x23, x24, s25) =>
if x24 = true then
(span_Reader_Left s25).bind fun (x36, s37) =>
if 0 < x36 then
some ((⟨0, 0, 0, 0, 0, ([] : List UInt8), false, 0, 0⟩ : api_Packet), 2)
else
some ((⟨x23.Kind, x23.Path, x23.Number, x23.Of, x23.From, x23.Data, x23.Fin, x23.Seen, x23.Limit⟩ : api_Packet), 0)
else
some ((⟨0, 0, 0, 0, 0, ([] : List UInt8), false, 0, 0⟩ : api_Packet), 2)
else
some ((⟨0, 0, 0, 0, 0, ([] : List UInt8), false, 0, 0⟩ : api_Packet), 2)
def haulierlaw20_NetOrder_l0 (x8 : Int) : Nat → net_Net → Int → Option (Sum (Bool) (net_Net))
| 0, _, _ => none
| k0 + 1, s61, x62 =>
if x62 < (w64 (1 + x8)) then
(net_Net_Put s61 1 (⟨1, 0, x62, 0, 0, ([] : List UInt8), false, 0, 0⟩ : api_Packet)).bind fun (x75, s76) =>
if x75 ≠ 0 then
some (Sum.inl false)
else
haulierlaw20_NetOrder_l0 x8 k0 s76 (w64 (x62 + 1))
else
some (Sum.inr s61)
def haulierlaw20_NetOrder_l1 (x8 : Int) (x13 : Int) : Nat → net_Net → Int → Option (Sum (Bool) (net_Net))
| 0, _, _ => none
| k1 + 1, s408, x409 =>
if x409 < (w64 (1 + x8)) then
((if x13 ≤ x409 then
some (w64 (x409 + 1))
else
some x409 : Option (Int))).bind fun x455 =>
((if x409 = (w64 ((w64 (1 + x8)) - 1)) then
some x13
else
some x455 : Option (Int))).bind fun x461 =>
(net_Net_Get s408 1 x409).bind fun (x466, x467, s468) =>
(packet_Unpack x466).bind fun (x479, x480) =>
if x467 = true then
if x480 ≠ 0 then
some (Sum.inl false)
else
if x479.Number ≠ x461 then
some (Sum.inl false)
else
haulierlaw20_NetOrder_l1 x8 x13 k1 s468 (w64 (x409 + 1))
else
some (Sum.inl false)
else
some (Sum.inr s408)
def haulierlaw20_NetOrder (p0 : Int) (p1 : Int) : Option (Bool) :=
(net_New).bind fun s1 =>
(haulierkeep_Within p0 9).bind fun x8 =>
(haulierkeep_Within p1 (w64 (1 + x8))).bind fun x13 =>
((haulierlaw20_NetOrder_l0 x8 bigN s1 0 : Option (Sum (Bool) (net_Net)))).bind fun j => match j with
| .inl r => some r
| .inr s49 =>
(((net_Net_Again s49 1 x13).bind fun (x127, s128) =>
if x127 = true then
(net_Net_Len s128 1).bind fun (x134, s135) =>
if x134 ≠ (w64 ((w64 (1 + x8)) + 1)) then
some (s135, true)
else
(net_Net_Len s135 0).bind fun (x141, s142) =>
some (s142, (decide (x141 ≠ 0)))
else
some (s128, true) : Option (net_Net × Bool))).bind fun (s124, x125) =>
if x125 = true then
some false
else
(net_Net_Get s124 1 x13).bind fun (x150, x151, s152) =>
((if x151 = true then
some (decide ((x150.length : Int) = 0))
else
some true : Option (Bool))).bind fun x162 =>
if x162 = true then
some false
else
if (0 : Int) ≤ 0 ∧ 0 < (x150.length : Int) then
(x150[(0 : Int).toNat]?).bind fun z173 =>
if (0 : Int) ≤ 0 ∧ 0 < (x150.length : Int) then
(some (x150.set (0 : Int).toNat (z173 + (1 : UInt8)))).bind fun x178 =>
(net_Net_Take s152 1 x13).bind fun (x180, x181, s182) =>
(packet_Unpack x180).bind fun (x193, x194) =>
((if x181 = true then
if x194 ≠ 0 then
some (s182, true)
else
if x193.Number ≠ x13 then
some (s182, true)
else
(net_Net_Len s182 1).bind fun (x228, s229) =>
some (s229, (decide (x228 ≠ (w64 (1 + x8)))))
else
some (s182, true) : Option (net_Net × Bool))).bind fun (s222, x223) =>
if x223 = true then
some false
else
((haulierlaw20_NetOrder_l1 x8 x13 bigN s222 0 : Option (Sum (Bool) (net_Net)))).bind fun j => match j with
| .inl r => some r
| .inr s364 =>
(net_Net_Take s364 1 (w64 (1 + x8))).bind fun (x495, x496, s497) =>
(net_Net_Get s497 1 (-1)).bind fun (x505, x506, s507) =>
if x496 = true then
some false
else
if x506 = true then
some false
else
(net_Net_Again s507 1 (w64 (1 + x8))).bind fun (x517, s518) =>
if x517 = true then
some false
else
(net_Net_Spoil s518 1 (w64 (1 + x8)) 0 (1 : UInt32)).bind fun (x524, s525) =>
if x524 = true then
some false
else
(haulierlaw20_wakes).bind fun x531 =>
some x531
else none
else none
end Go.Proofs.Ytcfapdamgbbklaa
