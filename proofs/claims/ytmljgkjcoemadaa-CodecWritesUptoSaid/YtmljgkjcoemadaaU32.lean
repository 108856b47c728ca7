/-
  Numbers of 32 bits as bit vectors: one operation at a time.
-/
import Derived.Test.YtmljgkjcoemadaaBlk
namespace Go.Ev
open Go Go.RowKit
variable {w : World} {K : Value → World → Prop} {x y : BitVec 32}
def uv (x : BitVec 32) : Value := .int .u32 (x.toNat : Int)
theorem u32wrap (n : Int) : IntKind.u32.wrap n = n % 4294967296 := by
  simp [IntKind.wrap, IntKind.bits, IntKind.signed]
theorem ofInt_toNat (x : BitVec 32) : BitVec.ofInt IntKind.u32.bits (x.toNat : Int) = x := by
  show BitVec.ofInt 32 (x.toNat : Int) = x
  rw [BitVec.ofInt_natCast]
  simp
theorem wrap_toNat (x : BitVec 32) : IntKind.u32.wrap (x.toNat : Int) = (x.toNat : Int) := by
  have := x.isLt
  rw [u32wrap]
  omega
theorem s_xor32 (h : K (uv (x ^^^ y)) w) : optW (arO .xor (uv x) (uv y)) w K := by
  refine s_xor ?_
  rw [ofInt_toNat, ofInt_toNat]
  change K (Value.int .u32 (IntKind.u32.wrap ((BitVec.toNat (w := 32) (x ^^^ y) : Nat) : Int))) w
  rw [wrap_toNat]
  exact h
theorem s_and32 (h : K (uv (x &&& y)) w) : optW (arO .and (uv x) (uv y)) w K := by
  refine s_and ?_
  rw [ofInt_toNat, ofInt_toNat]
  change K (Value.int .u32 (IntKind.u32.wrap ((BitVec.toNat (w := 32) (x &&& y) : Nat) : Int))) w
  rw [wrap_toNat]
  exact h
theorem s_or32 (h : K (uv (x ||| y)) w) : optW (arO .or (uv x) (uv y)) w K := by
  refine s_or ?_
  rw [ofInt_toNat, ofInt_toNat]
  change K (Value.int .u32 (IntKind.u32.wrap ((BitVec.toNat (w := 32) (x ||| y) : Nat) : Int))) w
  rw [wrap_toNat]
  exact h
theorem s_add32 (h : K (uv (x + y)) w) : optW (arO .add (uv x) (uv y)) w K := by
  refine s_add ?_
  rw [u32wrap]
  have : ((x.toNat : Int) + (y.toNat : Int)) % 4294967296 = ((x + y).toNat : Int) := by
    rw [BitVec.toNat_add]
    omega
  rw [this]
  exact h
theorem s_mul32 (h : K (uv (x * y)) w) : optW (arO .mul (uv x) (uv y)) w K := by
  refine s_mul ?_
  rw [u32wrap]
  have : ((x.toNat : Int) * (y.toNat : Int)) % 4294967296 = ((x * y).toNat : Int) := by
    rw [BitVec.toNat_mul]
    have h1 : (x.toNat : Int) * (y.toNat : Int) = ((x.toNat * y.toNat : Nat) : Int) := by simp
    rw [h1]
    generalize x.toNat * y.toNat = m
    omega
  rw [this]
  exact h
theorem s_shr32 {k : IntKind} {n : Nat} (hn : n ≤ 32) (h : K (uv (x >>> n)) w) : optW (shO .shr (uv x) (.int k (n : Int))) w K := by
  refine s_shr (by omega) ?_
  have : (x.toNat : Int).fdiv (2 ^ min ((n : Int)).toNat IntKind.u32.bits) = ((x >>> n).toNat : Int) := by
    rw [BitVec.toNat_ushiftRight, Nat.shiftRight_eq_div_pow, Int.fdiv_eq_ediv_of_nonneg _ (by exact Int.pow_nonneg (by omega))]
    rw [show min ((n : Int)).toNat IntKind.u32.bits = n by simp [show IntKind.u32.bits = 32 by rfl]; omega]
    simp
  rw [this]
  exact h
theorem s_shl32 {k : IntKind} {n : Nat} (hn : n ≤ 32) (h : K (uv (x <<< n)) w) : optW (shO .shl (uv x) (.int k (n : Int))) w K := by
  refine s_shl (by omega) ?_
  have : IntKind.u32.wrap ((x.toNat : Int) * 2 ^ min ((n : Int)).toNat IntKind.u32.bits) = ((x <<< n).toNat : Int) := by
    rw [BitVec.toNat_shiftLeft, Nat.shiftLeft_eq]
    rw [show min ((n : Int)).toNat IntKind.u32.bits = n by simp [show IntKind.u32.bits = 32 by rfl]; omega, u32wrap]
    have h1 : (x.toNat : Int) * 2 ^ n = ((x.toNat * 2 ^ n : Nat) : Int) := by simp
    rw [h1]
    generalize x.toNat * 2 ^ n = m
    omega
  rw [this]
  exact h
theorem s_not32 (h : K (uv (~~~x)) w) : optW (unO .xor (uv x)) w K := by
  have : unO .xor (uv x) = some (uv (~~~x)) := by
    simp only [unO, uv]
    rw [ofInt_toNat]
    have e : BitVec.ofInt IntKind.u32.bits (if IntKind.u32.signed then -1 else IntKind.u32.max) = BitVec.allOnes 32 := by rfl
    rw [e]
    have e2 : BitVec.allOnes 32 ^^^ x = ~~~x := by
      rw [BitVec.allOnes_xor]
    show some (Value.int .u32 (IntKind.u32.wrap ((BitVec.allOnes 32 ^^^ x).toNat : Int))) = _
    rw [e2, wrap_toNat]
  rw [this]
  exact h
theorem s_cv8_32 {b : UInt8} (h : K (uv (BitVec.ofNat 32 b.toNat)) w) : optW (cvO .u32 (bv b)) w K := by
  refine s_cv ?_
  have hb := b.toNat_lt
  have : IntKind.u32.wrap (b.toNat : Int) = ((BitVec.ofNat 32 b.toNat).toNat : Int) := by
    rw [u32wrap, BitVec.toNat_ofNat]
    omega
  rw [this]
  exact h
theorem s_cv32_8 (h : K (bv (UInt8.ofNat x.toNat)) w) : optW (cvO .u8 (uv x)) w K := by
  refine s_cv ?_
  have : IntKind.u8.wrap (x.toNat : Int) = ((UInt8.ofNat x.toNat).toNat : Int) := by
    simp [IntKind.wrap, IntKind.bits, IntKind.signed]
  rw [this]
  exact h
theorem s_eql32 (h : K (.bool (decide (x = y))) w) : optW (eqO false (uv x) (uv y)) w K := by
  refine s_eql ?_
  have : decide ((x.toNat : Int) = (y.toNat : Int)) = decide (x = y) := by
    rw [decide_eq_decide]
    constructor
    · intro h; exact BitVec.eq_of_toNat_eq (by omega)
    · intro h; rw [h]
  rw [this]
  exact h
theorem s_neq32 (h : K (.bool (decide (x ≠ y))) w) : optW (eqO true (uv x) (uv y)) w K := by
  refine s_neq ?_
  have : decide ((x.toNat : Int) ≠ (y.toNat : Int)) = decide (x ≠ y) := by
    rw [decide_eq_decide]
    constructor
    · intro h h'; exact h (by rw [h'])
    · intro h h'; exact h (BitVec.eq_of_toNat_eq (by omega))
  rw [this]
  exact h
theorem uv_lit (n : Nat) (h : n < 4294967296) : Value.int .u32 (n : Int) = uv (BitVec.ofNat 32 n) := by
  unfold uv
  rw [BitVec.toNat_ofNat, Nat.mod_eq_of_lt (by omega)]
end Go.Ev
