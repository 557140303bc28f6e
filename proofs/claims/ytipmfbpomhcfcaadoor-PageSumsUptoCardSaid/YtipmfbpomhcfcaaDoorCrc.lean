/- The checksum as a plain function on bytes: nibble by nibble; no program in sight. -/
import Derived.Test.YtipmfbpomhcfcaaDoorMem
set_option linter.unusedVariables false
set_option linter.unusedSimpArgs false
namespace Go.Le
open Go

/-- what four shifts make of the register's lowest four bits -/
def tab : List (BitVec 32) := [0x00000000, 0x105ec76f, 0x20bd8ede, 0x30e349b1, 0x417b1dbc, 0x5125dad3, 0x61c69362, 0x7198540d,
  0x82f63b78, 0x92a8fc17, 0xa24bb5a6, 0xb21572c9, 0xc38d26c4, 0xd3d3e1ab, 0xe330a81a, 0xf36e6f75]
def tabAt (i : Nat) : BitVec 32 := tab.getD i 0
def nib (x : BitVec 32) : BitVec 32 := tabAt (x.toNat % 16) ^^^ x >>> 4
def wide (b : UInt8) : BitVec 32 := BitVec.ofNat 32 b.toNat
def crcByte (x : BitVec 32) (b : UInt8) : BitVec 32 := nib (nib (x ^^^ wide b))
def crcRun (x : BitVec 32) (l : List UInt8) : BitVec 32 := l.foldl crcByte x
def crc (l : List UInt8) : BitVec 32 := ~~~ crcRun 0xffffffff#32 l

theorem crcRun_append (x : BitVec 32) (l r : List UInt8) : crcRun x (l ++ r) = crcRun (crcRun x l) r := by simp [crcRun]
theorem crcRun_take (x : BitVec 32) (l : List UInt8) (k : Nat) (h : k < l.length) : crcRun x (l.take (k + 1)) = crcByte (crcRun x (l.take k)) l[k] := by
  rw [List.take_succ_eq_append_getElem h, crcRun_append]; rfl

theorem u32_wrap (n : Nat) : IntKind.u32.wrap (n : Int) = ((n % 4294967296 : Nat) : Int) := by
  simp [IntKind.wrap, IntKind.bits, IntKind.signed]
theorem ofInt_u32 (x : BitVec 32) : BitVec.ofInt IntKind.u32.bits (x.toNat : Int) = x := by
  show BitVec.ofInt 32 (x.toNat : Int) = x
  rw [BitVec.ofInt_natCast]; simp
theorem xor_u32 (x y : BitVec 32) : bits .xor .u32 (x.toNat : Int) (y.toNat : Int) = ((x ^^^ y).toNat : Int) := by
  unfold bits
  rw [ofInt_u32, ofInt_u32]
  show IntKind.u32.wrap (((x ^^^ y).toNat : Nat) : Int) = _
  rw [u32_wrap]
  have := (x ^^^ y).isLt
  rw [Nat.mod_eq_of_lt (by omega)]
theorem and15_u32 (x : BitVec 32) : bits .and .u32 (x.toNat : Int) 15 = ((x.toNat % 16 : Nat) : Int) := by
  unfold bits
  rw [ofInt_u32]
  have e : BitVec.ofInt IntKind.u32.bits (15 : Int) = (15#32 : BitVec 32) := rfl
  rw [e]
  show IntKind.u32.wrap (((x &&& 15#32).toNat : Nat) : Int) = _
  rw [u32_wrap, BitVec.toNat_and]
  have e2 : x.toNat &&& 15 = x.toNat % 16 := Nat.and_two_pow_sub_one_eq_mod x.toNat 4
  show (((x.toNat &&& 15) % 4294967296 : Nat) : Int) = _
  rw [e2]
  have := x.isLt
  omega
theorem shr4_u32 (x : BitVec 32) : (x.toNat : Int) / (16 : Int) = ((x >>> 4).toNat : Int) := by
  rw [BitVec.toNat_ushiftRight, Nat.shiftRight_eq_div_pow]
  omega
theorem not_u32 (x : BitVec 32) : bits .xor .u32 IntKind.u32.max (x.toNat : Int) = ((~~~ x).toNat : Int) := by
  have e : IntKind.u32.max = (((0xffffffff#32 : BitVec 32).toNat : Nat) : Int) := by decide
  rw [e, xor_u32]
  congr 2
theorem wide_toNat (b : UInt8) : (wide b).toNat = b.toNat := by
  unfold wide
  rw [BitVec.toNat_ofNat]
  have := b.toNat_lt
  omega
end Go.Le
