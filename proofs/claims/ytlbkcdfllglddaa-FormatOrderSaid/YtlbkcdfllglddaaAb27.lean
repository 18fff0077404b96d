/- Whole numbers as the interpreter reckons them, in Lean's own terms. Conditions: the bounds in each statement. -/
import Derived.Test.YtlbkcdfllglddaaAb26
set_option linter.unusedSimpArgs false
set_option linter.unusedVariables false
namespace Go.Ab
open Go

/-- what an operation's slot says to a guard -/
def yv : Option AV → Option Bool
  | some (.bool b) => some b
  | _ => none
theorem yielded_yv {ops : Array Oper} {env : List AV} {j : Nat} : yieldedA ops env j = yv (((ops[j]?).bind (·.dst)).bind (env[·]?)) := by
  unfold yieldedA yv; rfl
theorem yv_bool {b : Bool} : yv (some (.bool b)) = some b := id rfl
theorem yv_undef : yv (some undefA) = none := id rfl
theorem yv_none : yv none = none := id rfl
theorem og_n {b : Bool} : ((none : Option Bool) == some b) = false := id rfl
theorem og_tt : (some true == some true) = true := id rfl
theorem og_ff : (some false == some false) = true := id rfl
theorem og_tf : (some true == some false) = false := id rfl
theorem og_ft : (some false == some true) = false := id rfl
section
variable {k : IntKind} {a b : Int}
theorem bi_add : binIntA .add k a b = some (.int k (k.wrap (a + b))) := id rfl
theorem bi_sub : binIntA .sub k a b = some (.int k (k.wrap (a - b))) := id rfl
theorem bi_mul : binIntA .mul k a b = some (.int k (k.wrap (a * b))) := id rfl
theorem bi_quo (h : b ≠ 0) : binIntA .quo k a b = some (.int k (k.wrap (a.tdiv b))) := by simp [binIntA, h]
theorem bi_rem (h : b ≠ 0) : binIntA .rem k a b = some (.int k (a.tmod b)) := by simp [binIntA, h]
theorem bi_eql : binIntA .eql k a b = some (.bool (a == b)) := id rfl
theorem bi_neq : binIntA .neq k a b = some (.bool (a != b)) := id rfl
theorem bi_lss : binIntA .lss k a b = some (.bool (decide (a < b))) := id rfl
theorem bi_leq : binIntA .leq k a b = some (.bool (decide (a ≤ b))) := id rfl
theorem bi_gtr : binIntA .gtr k a b = some (.bool (decide (b < a))) := id rfl
theorem bi_geq : binIntA .geq k a b = some (.bool (decide (b ≤ a))) := id rfl
end
theorem wrap_u64 (n : Nat) : IntKind.u64.wrap (n : Int) = ((n % 2 ^ 64 : Nat) : Int) := by
  simp [IntKind.wrap, IntKind.bits, IntKind.signed]
theorem wrap_u64_lt {n : Nat} (h : n < 2 ^ 64) : IntKind.u64.wrap (n : Int) = (n : Int) := by
  rw [wrap_u64, Nat.mod_eq_of_lt h]
theorem wi64 {n : Int} (h : -9223372036854775808 ≤ n) (h' : n ≤ 9223372036854775807) : IntKind.i64.wrap n = n := wrap_i64 h h'
theorem wi64_nat {n : Nat} (h : n < 2 ^ 63) : IntKind.i64.wrap (n : Int) = (n : Int) := wi64 (by omega) (by omega)
theorem ofInt_nat (n : Nat) : BitVec.ofInt 64 (n : Int) = BitVec.ofNat 64 n := by simp
theorem toNat_ofNat64 {n : Nat} (h : n < 2 ^ 64) : (BitVec.ofNat 64 n).toNat = n := by simp; omega
theorem u64_and {a b : Nat} (ha : a < 2 ^ 64) (hb : b < 2 ^ 64) : binIntA .and .u64 (a : Int) (b : Int) = some (.int .u64 ((a &&& b : Nat) : Int)) := by
  have : (BitVec.ofInt 64 (a : Int) &&& BitVec.ofInt 64 (b : Int)).toNat = a &&& b := by
    rw [ofInt_nat, ofInt_nat, BitVec.toNat_and, toNat_ofNat64 ha, toNat_ofNat64 hb]
  show some (AV.int .u64 (IntKind.u64.wrap ((BitVec.ofInt 64 (a : Int) &&& BitVec.ofInt 64 (b : Int)).toNat : Int))) = _
  rw [this, wrap_u64_lt (Nat.lt_of_le_of_lt Nat.and_le_left ha)]
theorem u64_or {a b : Nat} (ha : a < 2 ^ 64) (hb : b < 2 ^ 64) : binIntA .or .u64 (a : Int) (b : Int) = some (.int .u64 ((a ||| b : Nat) : Int)) := by
  have : (BitVec.ofInt 64 (a : Int) ||| BitVec.ofInt 64 (b : Int)).toNat = a ||| b := by
    rw [ofInt_nat, ofInt_nat, BitVec.toNat_or, toNat_ofNat64 ha, toNat_ofNat64 hb]
  show some (AV.int .u64 (IntKind.u64.wrap ((BitVec.ofInt 64 (a : Int) ||| BitVec.ofInt 64 (b : Int)).toNat : Int))) = _
  rw [this, wrap_u64_lt (Nat.or_lt_two_pow ha hb)]
theorem u64_xor {a b : Nat} (ha : a < 2 ^ 64) (hb : b < 2 ^ 64) : binIntA .xor .u64 (a : Int) (b : Int) = some (.int .u64 ((a ^^^ b : Nat) : Int)) := by
  have : (BitVec.ofInt 64 (a : Int) ^^^ BitVec.ofInt 64 (b : Int)).toNat = a ^^^ b := by
    rw [ofInt_nat, ofInt_nat, BitVec.toNat_xor, toNat_ofNat64 ha, toNat_ofNat64 hb]
  show some (AV.int .u64 (IntKind.u64.wrap ((BitVec.ofInt 64 (a : Int) ^^^ BitVec.ofInt 64 (b : Int)).toNat : Int))) = _
  rw [this, wrap_u64_lt (Nat.xor_lt_two_pow ha hb)]
theorem u64_andNot {a b : Nat} (ha : a < 2 ^ 64) (hb : b < 2 ^ 64) : binIntA .andNot .u64 (a : Int) (b : Int) = some (.int .u64 ((a &&& (2 ^ 64 - 1 - b) : Nat) : Int)) := by
  have : (BitVec.ofInt 64 (a : Int) &&& ~~~ BitVec.ofInt 64 (b : Int)).toNat = a &&& (2 ^ 64 - 1 - b) := by
    rw [ofInt_nat, ofInt_nat, BitVec.toNat_and, BitVec.toNat_not, toNat_ofNat64 ha, toNat_ofNat64 hb]
  show some (AV.int .u64 (IntKind.u64.wrap ((BitVec.ofInt 64 (a : Int) &&& ~~~ BitVec.ofInt 64 (b : Int)).toNat : Int))) = _
  rw [this, wrap_u64_lt (Nat.lt_of_le_of_lt Nat.and_le_left ha)]
theorem u64_shl {a y : Nat} (hy : y ≤ 64) : shiftA .shl .u64 (a : Int) (y : Int) = some (.int .u64 ((a * 2 ^ y % 2 ^ 64 : Nat) : Int)) := by
  have h0 : ¬ ((y : Int) < 0) := by omega
  simp only [shiftA, h0, if_false, Int.toNat_natCast, IntKind.bits, Nat.min_eq_left hy]
  have : (a : Int) * 2 ^ y = ((a * 2 ^ y : Nat) : Int) := by push_cast; rfl
  rw [this, wrap_u64]
theorem u64_shr {a y : Nat} (hy : y ≤ 64) : shiftA .shr .u64 (a : Int) (y : Int) = some (.int .u64 ((a / 2 ^ y : Nat) : Int)) := by
  have h0 : ¬ ((y : Int) < 0) := by omega
  simp only [shiftA, h0, if_false, Int.toNat_natCast, IntKind.bits, Nat.min_eq_left hy]
  have h2 : (0 : Int) ≤ 2 ^ y := Int.pow_nonneg (by decide)
  have : Int.fdiv (a : Int) (2 ^ y) = ((a / 2 ^ y : Nat) : Int) := by
    rw [Int.fdiv_eq_ediv_of_nonneg _ h2]
    push_cast; rfl
  rw [this]
theorem i64_shl {a : Int} {y : Nat} (hy : y ≤ 64) (h1 : -9223372036854775808 ≤ a * 2 ^ y) (h2 : a * 2 ^ y ≤ 9223372036854775807) : shiftA .shl .i64 a (y : Int) = some (.int .i64 (a * 2 ^ y)) := by
  have h0 : ¬ ((y : Int) < 0) := by omega
  simp only [shiftA, h0, if_false, Int.toNat_natCast, IntKind.bits, Nat.min_eq_left hy, wi64 h1 h2]
theorem i64_shr {a : Int} {y : Nat} (hy : y ≤ 64) : shiftA .shr .i64 a (y : Int) = some (.int .i64 (a / 2 ^ y)) := by
  have h0 : ¬ ((y : Int) < 0) := by omega
  simp only [shiftA, h0, if_false, Int.toNat_natCast, IntKind.bits, Nat.min_eq_left hy]
  rw [Int.fdiv_eq_ediv_of_nonneg _ (Int.pow_nonneg (by decide))]
end Go.Ab
