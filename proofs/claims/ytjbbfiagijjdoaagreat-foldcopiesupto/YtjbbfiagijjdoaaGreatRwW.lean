/- Parts of the proof: what is used by the law. No condition. -/
import Derived.Test.YtjbbfiagijjdoaaGreatRwV
set_option linter.unusedSimpArgs false
set_option linter.unusedVariables false
/- Words of thirty-two bits, as the walk meets them. No condition. -/
set_option linter.unusedSimpArgs false
set_option linter.unusedVariables false
namespace Go.Rw

/-- the number of a word -/
def n32 (x : BitVec 32) : Int := (x.toNat : Int)

theorem w32_nat (n : Nat) (h : n < 4294967296) : IntKind.u32.wrap (n : Int) = n := wu32 (by omega) (by omega)
theorem w32_n (n : Nat) (h : n < 4294967296) : IntKind.u32.wrap (n : Int) = n32 (BitVec.ofNat 32 n) := by
  rw [w32_nat n h, n32, BitVec.toNat_ofNat, Nat.mod_eq_of_lt (by omega)]
theorem n32_lt (x : BitVec 32) : 0 ≤ n32 x ∧ n32 x < 4294967296 := by
  have := x.isLt; unfold n32; omega
theorem n32_wrap (x : BitVec 32) : IntKind.u32.wrap (n32 x) = n32 x := w32_nat _ x.isLt

theorem ofInt_n32 (x : BitVec 32) : BitVec.ofInt 32 (n32 x) = x := by
  rw [n32, BitVec.ofInt_natCast]; simp

theorem bw_xor (x y : BitVec 32) : bitOp .xor .u32 (n32 x) (n32 y) = n32 (x ^^^ y) := by
  have : bitOp .xor .u32 (n32 x) (n32 y) = IntKind.u32.wrap ((BitVec.ofInt 32 (n32 x) ^^^ BitVec.ofInt 32 (n32 y)).toNat : Int) := rfl
  rw [this, ofInt_n32, ofInt_n32]
  exact w32_nat _ (x ^^^ y).isLt
theorem bw_and (x y : BitVec 32) : bitOp .and .u32 (n32 x) (n32 y) = n32 (x &&& y) := by
  have : bitOp .and .u32 (n32 x) (n32 y) = IntKind.u32.wrap ((BitVec.ofInt 32 (n32 x) &&& BitVec.ofInt 32 (n32 y)).toNat : Int) := rfl
  rw [this, ofInt_n32, ofInt_n32]
  exact w32_nat _ (x &&& y).isLt
theorem bw_and1 (x : BitVec 32) : bitOp .and .u32 (n32 x) 1 = n32 (x &&& 1#32) := bw_and x 1#32
theorem bw_shr (x : BitVec 32) (k : Nat) : Int.fdiv (n32 x) (2 ^ k) = n32 (x >>> k) := by
  rw [Int.fdiv_eq_ediv_of_nonneg _ (Int.pow_nonneg (by omega))]
  simp only [n32, BitVec.toNat_ushiftRight, Nat.shiftRight_eq_div_pow]
  norm_cast
theorem bw_shr1 (x : BitVec 32) : Int.fdiv (n32 x) 2 = n32 (x >>> 1) := bw_shr x 1
theorem bw_neg (x : BitVec 32) : IntKind.u32.wrap (0 - n32 x) = n32 (-x) := by
  have hx := x.isLt
  simp only [n32, IntKind.wrap, IntKind.bits, IntKind.signed, BitVec.toNat_neg]
  by_cases h0 : x.toNat = 0
  · simp [h0]
  · have h1 : (0 - (x.toNat : Int)) % 2 ^ 32 = 2 ^ 32 - x.toNat := by omega
    have h2 : (2 ^ 32 - x.toNat) % 2 ^ 32 = 2 ^ 32 - x.toNat := Nat.mod_eq_of_lt (by omega)
    simp only [h2]
    simp
    omega
theorem bw_neg' (x : BitVec 32) : IntKind.u32.wrap (-n32 x) = n32 (-x) := by rw [← bw_neg]; simp
theorem bw_not (x : BitVec 32) : bitOp .xor .u32 4294967295 (n32 x) = n32 (~~~x) := by
  have h := bw_xor (BitVec.allOnes 32) x
  rw [BitVec.allOnes_xor] at h
  exact h
theorem bw_not' (x : BitVec 32) : bitOp .xor .u32 IntKind.u32.max (n32 x) = n32 (~~~x) := bw_not x
theorem aUn_xor32 (x : BitVec 32) : aUn .xor (.v (.int .u32 (n32 x))) = some (.v (.int .u32 (n32 (~~~x)))) := by
  rw [aUn_xor_u _ _ rfl, bw_not']
end Go.Rw
