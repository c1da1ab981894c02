/-
  The plain words that the walks compute: 64-bit lanes as bit vectors, and Go's operations on them in the walk's own spelling.
-/
import Derived.WalkKit
import Derived.WalkSpells
import Derived.WalkLawsBesides
namespace Go.Proofs.Ygcsad
open Go.RowKit

/-- A 64-bit word as the integer that a cell holds. -/
def U (x : BitVec 64) : Int := (x.toNat : Int)
/-- A byte as the integer that a cell holds. -/
def B8 (x : BitVec 8) : Int := (x.toNat : Int)

theorem U_lt (x : BitVec 64) : U x < 18446744073709551616 := by have := x.isLt; unfold U; omega
theorem U_nonneg (x : BitVec 64) : 0 ≤ U x := by unfold U; omega
theorem B8_lt (x : BitVec 8) : B8 x < 256 := by have := x.isLt; unfold B8; omega
theorem B8_nonneg (x : BitVec 8) : 0 ≤ B8 x := by unfold B8; omega

theorem U_xor (x y : BitVec 64) : bits .xor .u64 (U x) (U y) = U (x ^^^ y) := by
  unfold U; rw [u64_xor_nat _ _ x.isLt y.isLt, BitVec.toNat_xor]
theorem U_and (x y : BitVec 64) : bits .and .u64 (U x) (U y) = U (x &&& y) := by
  unfold U; rw [u64_and_nat _ _ x.isLt y.isLt, BitVec.toNat_and]
theorem U_or (x y : BitVec 64) : bits .or .u64 (U x) (U y) = U (x ||| y) := by
  unfold U; rw [u64_or_nat _ _ x.isLt y.isLt, BitVec.toNat_or]
theorem U_andc (x : BitVec 64) (c : Nat) (h : c < 18446744073709551616) : bits .and .u64 (U x) (c : Int) = U (x &&& BitVec.ofNat 64 c) := by
  rw [← U_and]; congr 1; unfold U; rw [BitVec.toNat_ofNat]; omega
theorem U_not (x : BitVec 64) : bits .xor .u64 18446744073709551615 (U x) = U (~~~ x) := by
  rw [show (18446744073709551615 : Int) = U (BitVec.allOnes 64) from rfl, U_xor, BitVec.allOnes_xor]
theorem U_not' (x : BitVec 64) : bits .xor .u64 IntKind.u64.max (U x) = U (~~~ x) := U_not x
theorem U_shr (x : BitVec 64) (k : Nat) : U x / (2 : Int) ^ k = U (x >>> k) := by
  unfold U; rw [BitVec.toNat_ushiftRight, Nat.shiftRight_eq_div_pow]; simp
theorem U_shl (x : BitVec 64) (k : Nat) : IntKind.u64.wrap (U x * 2 ^ k) = U (x <<< k) := by
  rw [IntKind.wrap_u64]; unfold U; rw [BitVec.toNat_shiftLeft, Nat.shiftLeft_eq, Int.natCast_emod, Int.natCast_mul, Int.natCast_pow]
  rfl
theorem U_shl8 (x : BitVec 64) : IntKind.u64.wrap (U x * 256) = U (x <<< 8) := U_shl x 8
theorem U_shr8 (x : BitVec 64) : U x / (256 : Int) = U (x >>> 8) := U_shr x 8
theorem U_shl16 (x : BitVec 64) : IntKind.u64.wrap (U x * 65536) = U (x <<< 16) := U_shl x 16
theorem U_shr16 (x : BitVec 64) : U x / (65536 : Int) = U (x >>> 16) := U_shr x 16
theorem U_shl24 (x : BitVec 64) : IntKind.u64.wrap (U x * 16777216) = U (x <<< 24) := U_shl x 24
theorem U_shr24 (x : BitVec 64) : U x / (16777216 : Int) = U (x >>> 24) := U_shr x 24
theorem U_shl32 (x : BitVec 64) : IntKind.u64.wrap (U x * 4294967296) = U (x <<< 32) := U_shl x 32
theorem U_shr32 (x : BitVec 64) : U x / (4294967296 : Int) = U (x >>> 32) := U_shr x 32
theorem U_shl40 (x : BitVec 64) : IntKind.u64.wrap (U x * 1099511627776) = U (x <<< 40) := U_shl x 40
theorem U_shr40 (x : BitVec 64) : U x / (1099511627776 : Int) = U (x >>> 40) := U_shr x 40
theorem U_shl48 (x : BitVec 64) : IntKind.u64.wrap (U x * 281474976710656) = U (x <<< 48) := U_shl x 48
theorem U_shr48 (x : BitVec 64) : U x / (281474976710656 : Int) = U (x >>> 48) := U_shr x 48
theorem U_shl56 (x : BitVec 64) : IntKind.u64.wrap (U x * 72057594037927936) = U (x <<< 56) := U_shl x 56
theorem U_shr56 (x : BitVec 64) : U x / (72057594037927936 : Int) = U (x >>> 56) := U_shr x 56
theorem B8_U (x : BitVec 8) : B8 x = U (x.setWidth 64) := by
  unfold B8 U; rw [BitVec.toNat_setWidth]; have := x.isLt; omega
theorem B8_xor (x y : BitVec 8) : bits .xor .u8 (B8 x) (B8 y) = B8 (x ^^^ y) := by
  unfold B8; rw [u8_xor_nat _ _ x.isLt y.isLt, BitVec.toNat_xor]
theorem B8_or (x y : BitVec 8) : bits .or .u8 (B8 x) (B8 y) = B8 (x ||| y) := by
  unfold B8; rw [u8_or_nat _ _ x.isLt y.isLt, BitVec.toNat_or]
theorem B8_and (x y : BitVec 8) : bits .and .u8 (B8 x) (B8 y) = B8 (x &&& y) := by
  unfold B8; rw [u8_and_nat _ _ x.isLt y.isLt, BitVec.toNat_and]
theorem U_B8 (x : BitVec 64) : IntKind.u8.wrap (U x) = B8 (x.setWidth 8) := by
  rw [IntKind.wrap_u8']; unfold B8 U; rw [BitVec.toNat_setWidth]; omega
theorem U_rot (x : BitVec 64) (k : Nat) (h : k < 64) : bits .or .u64 (IntKind.u64.wrap (U x * 2 ^ k)) (U x / 2 ^ (64 - k)) = U (x.rotateLeft k) := by
  rw [U_shl, U_shr, U_or, BitVec.rotateLeft_def]
  rw [Nat.mod_eq_of_lt h]
end Go.Proofs.Ygcsad
