/- The functions below the Format laws, 0: the interpreter's runs of the small ones. Conditions: none. -/
import Derived.Test.YtlbkcdfllglddaaTy
namespace Go.Proofs.Ytlbkcdfllglddaa.fmt
open Go Go.Ab
set_option maxRecDepth 100000
set_option linter.unusedSimpArgs false
set_option linter.unusedVariables false
instance : Env := noEnv
theorem nosumm (f : FuncId) (args : List AV) : Env.summ f args = none := rfl
attribute [local simp] ox ou ko ky kn kd oy_seq oy_ret oy_exit oy_skip oy_cond oy_block oy_region oy_draw dr_eq dre_some stl_some st_nil st_op ot ov os_same sy_nil sy_op nxt_normal nxt_ret nxt_exit blk_exit blk_normal blk_ret reg_some cnd_true cnd_false opr_some grd_true grd_false fin_ret fin_normal finv_some Region.wanted opA callV aop evalL evalO putE binA bi_add bi_sub bi_mul bi_eql bi_neq bi_lss bi_leq bi_gtr bi_geq unA ofVal ofLeaf resultsA tupA AV.rfL AV.rf yielded_yv yv_bool yv_undef yv_none og_n List.replicate Option.bind heapFree onlyReads
theorem wide_run (x : Int) (lo : Nat) (H : Heap) : callA Try.prog (om Try.prog) lo 45 [.int .i64 x] H = some (.bool (decide (1 ≤ x) && decide (x ≤ 64)), H) := by
  rw [call_eq Try.func45 rfl rfl]
  simp -implicitDefEqProofs only [Try.f45]
  by_cases h1 : 1 ≤ x <;> by_cases h2 : x ≤ 64 <;> simp -implicitDefEqProofs [h1, h2]
theorem in_run (x a b : Int) (lo : Nat) (H : Heap) : callA Try.prog (om Try.prog) lo 43 [.int .i64 x, .int .i64 a, .int .i64 b] H = some (.bool (decide (a ≤ x) && decide (x ≤ b)), H) := by
  rw [call_eq Try.func43 rfl rfl]
  simp -implicitDefEqProofs only [Try.f43]
  by_cases h1 : a ≤ x <;> by_cases h2 : x ≤ b <;> simp -implicitDefEqProofs [h1, h2]
theorem two_pow_lt {n m : Nat} (h : n < m) : 2 ^ n < 2 ^ m := Nat.pow_lt_pow_right (by decide) h
theorem two_pow_le {n m : Nat} (h : n ≤ m) : 2 ^ n ≤ 2 ^ m := Nat.pow_le_pow_right (by decide) h
theorem dbl (i : Nat) : (2 : Int) * ((2 ^ i : Nat) : Int) = ((2 ^ (i + 1) : Nat) : Int) := by rw [Nat.pow_succ]; push_cast; omega
theorem power_loop (cx : Ctx) (lo : Nat) (H : Heap) (n : Nat) (hn : n ≤ 62) : ∀ (m i : Nat) (x1 x2 x5 x6 x7 x8 x9 x10 x11 x12 : AV), i + m = n →
    ∃ y1 y2 y5 y6 y7 y8 y9 y10 y11 y12, om Try.prog cx lo (loopAt Try.f32 0) ⟨[.int .i64 n, x1, x2, .int .i64 ((2 ^ i : Nat) : Int), .int .i64 i, x5, x6, x7, x8, x9, x10, x11, x12], [], H⟩ =
      some (.exit 0, ⟨[.int .i64 n, y1, y2, .int .i64 ((2 ^ n : Nat) : Int), .int .i64 n, y5, y6, y7, y8, y9, y10, y11, y12], [], H⟩) := by
  simp -implicitDefEqProofs only [loopAt, loopIn, firstC, Try.f32, Option.getD, if_true]
  intro m
  induction m with
  | zero =>
    intro i x1 x2 x5 x6 x7 x8 x9 x10 x11 x12 hi
    obtain rfl : i = n := by omega
    rw [oy_loop]
    simp -implicitDefEqProofs
  | succ m ih =>
    intro i x1 x2 x5 x6 x7 x8 x9 x10 x11 x12 hi
    have e1 : (i : Int) < n := by omega
    have w1 : IntKind.i64.wrap ((i : Int) + 1) = ((i + 1 : Nat) : Int) := by rw [wi64 (by omega) (by omega)]; push_cast; rfl
    have hp := two_pow_lt (show i + 1 < 63 by omega)
    have w2 : IntKind.i64.wrap (2 * ((2 ^ i : Nat) : Int)) = ((2 ^ (i + 1) : Nat) : Int) := by rw [dbl, wi64_nat hp]
    rw [oy_loop]
    simp -implicitDefEqProofs only [ox, ou, ko, ky, kn, kd, oy_seq, oy_ret, oy_exit, oy_skip, oy_cond, oy_block, oy_region, oy_draw, dr_eq, dre_some, stl_some, st_nil, st_op, ot, ov, os_same, sy_nil, sy_op, nxt_normal, nxt_ret, nxt_exit, blk_exit, blk_normal, blk_ret, reg_some, cnd_true, cnd_false, opr_some, grd_true, grd_false, fin_ret, fin_normal, finv_some, Region.wanted, opA, callV, aop, evalL, evalO, putE, binA, bi_add, bi_sub, bi_mul, bi_eql, bi_neq, bi_lss, bi_leq, bi_gtr, bi_geq, unA, ofVal, ofLeaf, resultsA, tupA, AV.rfL, AV.rf, yielded_yv, yv_bool, yv_undef, yv_none, og_n, List.replicate, Option.bind, heapFree, onlyReads, List.set, List.getD, List.getElem?_cons_succ, List.getElem?_cons_zero, Option.getD, Option.map, decide_true, decide_false, if_true, if_false, Bool.false_eq_true, Bool.not_true, Bool.not_false, beq_self_eq_true, Bool.true_and, Bool.and_true, Bool.and_self, Bool.false_and, Bool.and_false, Bool.true_or, Bool.or_true, Bool.false_or, Bool.or_false, Bool.or_self, List.length_cons, List.length_nil, List.cons_append, List.nil_append, ite_self, List.getElem?_toArray, Option.bind_some, Option.bind_none, og_tt, og_ff, og_tf, og_ft, Int.reduceBNe, Int.reduceBEq, Int.reduceLT, Int.reduceLE, e1, w1, w2]
    exact ih (i + 1) _ _ _ _ _ _ _ _ _ _ (by omega)
end Go.Proofs.Ytlbkcdfllglddaa.fmt
