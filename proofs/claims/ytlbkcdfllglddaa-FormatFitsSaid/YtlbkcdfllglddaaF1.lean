/- The functions below the Format laws, 1: runs of the small ones, with loops. Conditions: none. -/
import Derived.Test.YtlbkcdfllglddaaF0
namespace Go.Proofs.Ytlbkcdfllglddaa.fmt
open Go Go.Ab
set_option maxRecDepth 100000
set_option linter.unusedSimpArgs false
set_option linter.unusedVariables false
attribute [local simp] ox ou ko ky kn kd oy_seq oy_ret oy_exit oy_skip oy_cond oy_block oy_region oy_draw dr_eq dre_some stl_some st_nil st_op ot ov os_same sy_nil sy_op nxt_normal nxt_ret nxt_exit blk_exit blk_normal blk_ret reg_some cnd_true cnd_false opr_some grd_true grd_false fin_ret fin_normal finv_some Region.wanted opA callV aop evalL evalO putE binA bi_add bi_sub bi_mul bi_eql bi_neq bi_lss bi_leq bi_gtr bi_geq unA ofVal ofLeaf resultsA tupA AV.rfL AV.rf yieldedA List.replicate Option.bind heapFree onlyReads
theorem c0 : ((0 : Nat) : Int) = 0 := rfl
theorem c1 : ((1 : Nat) : Int) = 1 := rfl
theorem power_run (n : Nat) (hn : n ≤ 62) (lo : Nat) (H : Heap) : callA Try.prog (om Try.prog) lo 32 [.int .i64 n] H = some (.int .i64 ((2 ^ n : Nat) : Int), H) := by
  obtain ⟨y1, y2, y5, y6, y7, y8, y9, y10, y11, y12, h⟩ := power_loop ⟨32, none⟩ H.next H n hn n 0 undefA (.int .i64 0) undefA undefA undefA undefA undefA undefA undefA undefA (by omega)
  rw [call_eq Try.func32 rfl rfl]
  simp -implicitDefEqProofs only [loopAt, loopIn, firstC, Try.f32, Option.getD, if_true, Nat.pow_zero] at h ⊢
  simp -implicitDefEqProofs only [ox, ou, ko, ky, kn, kd, oy_seq, oy_ret, oy_exit, oy_skip, oy_cond, oy_block, oy_region, oy_draw, dr_eq, dre_some, stl_some, st_nil, st_op, ot, ov, os_same, sy_nil, sy_op, nxt_normal, nxt_ret, nxt_exit, blk_exit, blk_normal, blk_ret, reg_some, cnd_true, cnd_false, opr_some, grd_true, grd_false, fin_ret, fin_normal, finv_some, Region.wanted, opA, callV, aop, evalL, evalO, putE, binA, bi_add, bi_sub, bi_mul, bi_eql, bi_neq, bi_lss, bi_leq, bi_gtr, bi_geq, unA, ofVal, ofLeaf, resultsA, tupA, AV.rfL, AV.rf, yieldedA, List.replicate, Option.bind, heapFree, onlyReads, List.set, List.getD, List.getElem?_cons_succ, List.getElem?_cons_zero, Option.getD, Option.map, decide_true, decide_false, if_true, if_false, Bool.false_eq_true, Bool.not_true, Bool.not_false, beq_self_eq_true, Bool.true_and, Bool.and_true, Bool.and_self, Bool.false_and, Bool.and_false, Bool.true_or, Bool.or_true, Bool.false_or, Bool.or_false, Bool.or_self, List.length_cons, List.length_nil, List.cons_append, List.nil_append, ite_self, List.getElem?_toArray, Option.bind_some, Option.bind_none, og_tt, og_ff, og_tf, og_ft, Int.reduceBNe, Int.reduceBEq, Int.reduceLT, Int.reduceLE, List.length_cons, List.length_nil, List.cons_append, List.nil_append, Bool.true_and, c0, c1] at h ⊢
  simp -implicitDefEqProofs only [ox, ou, ko, ky, kn, kd, oy_seq, oy_ret, oy_exit, oy_skip, oy_cond, oy_block, oy_region, oy_draw, dr_eq, dre_some, stl_some, st_nil, st_op, ot, ov, os_same, sy_nil, sy_op, nxt_normal, nxt_ret, nxt_exit, blk_exit, blk_normal, blk_ret, reg_some, cnd_true, cnd_false, opr_some, grd_true, grd_false, fin_ret, fin_normal, finv_some, Region.wanted, opA, callV, aop, evalL, evalO, putE, binA, bi_add, bi_sub, bi_mul, bi_eql, bi_neq, bi_lss, bi_leq, bi_gtr, bi_geq, unA, ofVal, ofLeaf, resultsA, tupA, AV.rfL, AV.rf, yieldedA, List.replicate, Option.bind, heapFree, onlyReads, List.set, List.getD, List.getElem?_cons_succ, List.getElem?_cons_zero, Option.getD, Option.map, decide_true, decide_false, if_true, if_false, Bool.false_eq_true, Bool.not_true, Bool.not_false, beq_self_eq_true, Bool.true_and, Bool.and_true, Bool.and_self, Bool.false_and, Bool.and_false, Bool.true_or, Bool.or_true, Bool.false_or, Bool.or_false, Bool.or_self, List.length_cons, List.length_nil, List.cons_append, List.nil_append, ite_self, List.getElem?_toArray, Option.bind_some, Option.bind_none, og_tt, og_ff, og_tf, og_ft, Int.reduceBNe, Int.reduceBEq, Int.reduceLT, Int.reduceLE, h]
theorem value_loop (cx : Ctx) (lo : Nat) (H : Heap) (n : Nat) (hn : n ≤ 63) : ∀ (m i : Nat) (x1 x2 x5 x6 x7 x8 x9 x10 x11 x12 : AV), i + m = n →
    ∃ y1 y2 y5 y6 y7 y8 y9 y10 y11 y12, om Try.prog cx lo (loopAt Try.f40 0) ⟨[.int .i64 n, x1, x2, .int .u64 ((2 ^ i : Nat) : Int), .int .i64 i, x5, x6, x7, x8, x9, x10, x11, x12], [], H⟩ =
      some (.exit 0, ⟨[.int .i64 n, y1, y2, .int .u64 ((2 ^ n : Nat) : Int), .int .i64 n, y5, y6, y7, y8, y9, y10, y11, y12], [], H⟩) := by
  simp -implicitDefEqProofs only [loopAt, loopIn, firstC, Try.f40, Option.getD, if_true]
  intro m
  induction m with
  | zero =>
    intro i x1 x2 x5 x6 x7 x8 x9 x10 x11 x12 hi
    obtain rfl : i = n := by omega
    rw [oy_loop]
    simp -implicitDefEqProofs
  | succ m ih =>
    intro i x1 x2 x5 x6 x7 x8 x9 x10 x11 x12 hi
    have e1 : (i : Int) < n := by omega
    have w1 : IntKind.i64.wrap ((i : Int) + 1) = ((i + 1 : Nat) : Int) := by rw [wi64 (by omega) (by omega)]; push_cast; rfl
    have hp := two_pow_lt (show i + 1 < 64 by omega)
    have w2 : IntKind.u64.wrap (2 * ((2 ^ i : Nat) : Int)) = ((2 ^ (i + 1) : Nat) : Int) := by rw [dbl, wrap_u64_lt hp]
    rw [oy_loop]
    simp -implicitDefEqProofs only [ox, ou, ko, ky, kn, kd, oy_seq, oy_ret, oy_exit, oy_skip, oy_cond, oy_block, oy_region, oy_draw, dr_eq, dre_some, stl_some, st_nil, st_op, ot, ov, os_same, sy_nil, sy_op, nxt_normal, nxt_ret, nxt_exit, blk_exit, blk_normal, blk_ret, reg_some, cnd_true, cnd_false, opr_some, grd_true, grd_false, fin_ret, fin_normal, finv_some, Region.wanted, opA, callV, aop, evalL, evalO, putE, binA, bi_add, bi_sub, bi_mul, bi_eql, bi_neq, bi_lss, bi_leq, bi_gtr, bi_geq, unA, ofVal, ofLeaf, resultsA, tupA, AV.rfL, AV.rf, yieldedA, List.replicate, Option.bind, heapFree, onlyReads, List.set, List.getD, List.getElem?_cons_succ, List.getElem?_cons_zero, Option.getD, Option.map, decide_true, decide_false, if_true, if_false, Bool.false_eq_true, Bool.not_true, Bool.not_false, beq_self_eq_true, Bool.true_and, Bool.and_true, Bool.and_self, Bool.false_and, Bool.and_false, Bool.true_or, Bool.or_true, Bool.false_or, Bool.or_false, Bool.or_self, List.length_cons, List.length_nil, List.cons_append, List.nil_append, ite_self, List.getElem?_toArray, Option.bind_some, Option.bind_none, og_tt, og_ff, og_tf, og_ft, Int.reduceBNe, Int.reduceBEq, Int.reduceLT, Int.reduceLE, e1, w1, w2]
    exact ih (i + 1) _ _ _ _ _ _ _ _ _ _ (by omega)
theorem value_run (n : Nat) (hn : n ≤ 63) (lo : Nat) (H : Heap) : callA Try.prog (om Try.prog) lo 40 [.int .i64 n] H = some (.int .u64 ((2 ^ n : Nat) : Int), H) := by
  obtain ⟨y1, y2, y5, y6, y7, y8, y9, y10, y11, y12, h⟩ := value_loop ⟨40, none⟩ H.next H n hn n 0 undefA (.int .u64 0) undefA undefA undefA undefA undefA undefA undefA undefA (by omega)
  rw [call_eq Try.func40 rfl rfl]
  simp -implicitDefEqProofs only [loopAt, loopIn, firstC, Try.f40, Option.getD, if_true, Nat.pow_zero] at h ⊢
  simp -implicitDefEqProofs only [ox, ou, ko, ky, kn, kd, oy_seq, oy_ret, oy_exit, oy_skip, oy_cond, oy_block, oy_region, oy_draw, dr_eq, dre_some, stl_some, st_nil, st_op, ot, ov, os_same, sy_nil, sy_op, nxt_normal, nxt_ret, nxt_exit, blk_exit, blk_normal, blk_ret, reg_some, cnd_true, cnd_false, opr_some, grd_true, grd_false, fin_ret, fin_normal, finv_some, Region.wanted, opA, callV, aop, evalL, evalO, putE, binA, bi_add, bi_sub, bi_mul, bi_eql, bi_neq, bi_lss, bi_leq, bi_gtr, bi_geq, unA, ofVal, ofLeaf, resultsA, tupA, AV.rfL, AV.rf, yieldedA, List.replicate, Option.bind, heapFree, onlyReads, List.set, List.getD, List.getElem?_cons_succ, List.getElem?_cons_zero, Option.getD, Option.map, decide_true, decide_false, if_true, if_false, Bool.false_eq_true, Bool.not_true, Bool.not_false, beq_self_eq_true, Bool.true_and, Bool.and_true, Bool.and_self, Bool.false_and, Bool.and_false, Bool.true_or, Bool.or_true, Bool.false_or, Bool.or_false, Bool.or_self, List.length_cons, List.length_nil, List.cons_append, List.nil_append, ite_self, List.getElem?_toArray, Option.bind_some, Option.bind_none, og_tt, og_ff, og_tf, og_ft, Int.reduceBNe, Int.reduceBEq, Int.reduceLT, Int.reduceLE, List.length_cons, List.length_nil, List.cons_append, List.nil_append, Bool.true_and, c0, c1] at h ⊢
  simp -implicitDefEqProofs only [ox, ou, ko, ky, kn, kd, oy_seq, oy_ret, oy_exit, oy_skip, oy_cond, oy_block, oy_region, oy_draw, dr_eq, dre_some, stl_some, st_nil, st_op, ot, ov, os_same, sy_nil, sy_op, nxt_normal, nxt_ret, nxt_exit, blk_exit, blk_normal, blk_ret, reg_some, cnd_true, cnd_false, opr_some, grd_true, grd_false, fin_ret, fin_normal, finv_some, Region.wanted, opA, callV, aop, evalL, evalO, putE, binA, bi_add, bi_sub, bi_mul, bi_eql, bi_neq, bi_lss, bi_leq, bi_gtr, bi_geq, unA, ofVal, ofLeaf, resultsA, tupA, AV.rfL, AV.rf, yieldedA, List.replicate, Option.bind, heapFree, onlyReads, List.set, List.getD, List.getElem?_cons_succ, List.getElem?_cons_zero, Option.getD, Option.map, decide_true, decide_false, if_true, if_false, Bool.false_eq_true, Bool.not_true, Bool.not_false, beq_self_eq_true, Bool.true_and, Bool.and_true, Bool.and_self, Bool.false_and, Bool.and_false, Bool.true_or, Bool.or_true, Bool.false_or, Bool.or_false, Bool.or_self, List.length_cons, List.length_nil, List.cons_append, List.nil_append, ite_self, List.getElem?_toArray, Option.bind_some, Option.bind_none, og_tt, og_ff, og_tf, og_ft, Int.reduceBNe, Int.reduceBEq, Int.reduceLT, Int.reduceLE, h]
theorem half (x i : Nat) : ((x / 2 ^ i : Nat) : Int).tdiv 2 = ((x / 2 ^ (i + 1) : Nat) : Int) := by
  rw [Nat.pow_succ, ← Nat.div_div_eq_div_mul]
  rw [Int.tdiv_eq_ediv_of_nonneg (Int.natCast_nonneg _)]; rfl
theorem bit_loop (cx : Ctx) (lo : Nat) (H : Heap) (x n : Nat) (hx : x < 2 ^ 64) (hn : n ≤ 100) : ∀ (m i : Nat) (x2 x3 x4 x6 x7 x8 x9 x10 x11 x12 x13 x14 x15 : AV), i + m = n →
    ∃ y2 y3 y4 y6 y7 y8 y9 y10 y11 y12 y13 y14 y15, om Try.prog cx lo (loopAt Try.f42 0) ⟨[.int .u64 ((x / 2 ^ i : Nat) : Int), .int .i64 n, x2, x3, x4, .int .i64 i, x6, x7, x8, x9, x10, x11, x12, x13, x14, x15], [], H⟩ =
      some (.exit 0, ⟨[.int .u64 ((x / 2 ^ n : Nat) : Int), .int .i64 n, y2, y3, y4, .int .i64 n, y6, y7, y8, y9, y10, y11, y12, y13, y14, y15], [], H⟩) := by
  simp -implicitDefEqProofs only [loopAt, loopIn, firstC, Try.f42, Option.getD, if_true]
  intro m
  induction m with
  | zero =>
    intro i x2 x3 x4 x6 x7 x8 x9 x10 x11 x12 x13 x14 x15 hi
    obtain rfl : i = n := by omega
    rw [oy_loop]
    simp -implicitDefEqProofs
  | succ m ih =>
    intro i x2 x3 x4 x6 x7 x8 x9 x10 x11 x12 x13 x14 x15 hi
    have e1 : (i : Int) < n := by omega
    have w1 : IntKind.i64.wrap ((i : Int) + 1) = ((i + 1 : Nat) : Int) := by rw [wi64 (by omega) (by omega)]; push_cast; rfl
    have w2 : IntKind.u64.wrap (((x / 2 ^ i : Nat) : Int).tdiv 2) = ((x / 2 ^ (i + 1) : Nat) : Int) := by
      rw [half, wrap_u64_lt (Nat.lt_of_le_of_lt (Nat.div_le_self _ _) hx)]
    have q : binIntA .quo .u64 ((x / 2 ^ i : Nat) : Int) 2 = some (.int .u64 (IntKind.u64.wrap (((x / 2 ^ i : Nat) : Int).tdiv 2))) := bi_quo (by decide)
    rw [oy_loop]
    simp -implicitDefEqProofs only [ox, ou, ko, ky, kn, kd, oy_seq, oy_ret, oy_exit, oy_skip, oy_cond, oy_block, oy_region, oy_draw, dr_eq, dre_some, stl_some, st_nil, st_op, ot, ov, os_same, sy_nil, sy_op, nxt_normal, nxt_ret, nxt_exit, blk_exit, blk_normal, blk_ret, reg_some, cnd_true, cnd_false, opr_some, grd_true, grd_false, fin_ret, fin_normal, finv_some, Region.wanted, opA, callV, aop, evalL, evalO, putE, binA, bi_add, bi_sub, bi_mul, bi_eql, bi_neq, bi_lss, bi_leq, bi_gtr, bi_geq, unA, ofVal, ofLeaf, resultsA, tupA, AV.rfL, AV.rf, yieldedA, List.replicate, Option.bind, heapFree, onlyReads, List.set, List.getD, List.getElem?_cons_succ, List.getElem?_cons_zero, Option.getD, Option.map, decide_true, decide_false, if_true, if_false, Bool.false_eq_true, Bool.not_true, Bool.not_false, beq_self_eq_true, Bool.true_and, Bool.and_true, Bool.and_self, Bool.false_and, Bool.and_false, Bool.true_or, Bool.or_true, Bool.false_or, Bool.or_false, Bool.or_self, List.length_cons, List.length_nil, List.cons_append, List.nil_append, ite_self, List.getElem?_toArray, Option.bind_some, Option.bind_none, og_tt, og_ff, og_tf, og_ft, Int.reduceBNe, Int.reduceBEq, Int.reduceLT, Int.reduceLE, e1, w1, w2, q]
    exact ih (i + 1) _ _ _ _ _ _ _ _ _ _ _ _ _ (by omega)
theorem below_loop (cx : Ctx) (lo : Nat) (H : Heap) (x n : Nat) (hx : x < 2 ^ 64) (hn : n ≤ 1000) : ∀ (m i : Nat) (x2 x3 x4 x6 x7 x8 x9 x10 x11 x12 x13 x14 : AV), i + m = n →
    ∃ y2 y3 y4 y6 y7 y8 y9 y10 y11 y12 y13 y14, om Try.prog cx lo (loopAt Try.f46 0) ⟨[.int .u64 ((x / 2 ^ i : Nat) : Int), .int .i64 n, x2, x3, x4, .int .i64 i, x6, x7, x8, x9, x10, x11, x12, x13, x14], [], H⟩ =
      some (.exit 0, ⟨[.int .u64 ((x / 2 ^ n : Nat) : Int), .int .i64 n, y2, y3, y4, .int .i64 n, y6, y7, y8, y9, y10, y11, y12, y13, y14], [], H⟩) := by
  simp -implicitDefEqProofs only [loopAt, loopIn, firstC, Try.f46, Option.getD, if_true]
  intro m
  induction m with
  | zero =>
    intro i x2 x3 x4 x6 x7 x8 x9 x10 x11 x12 x13 x14 hi
    obtain rfl : i = n := by omega
    rw [oy_loop]
    simp -implicitDefEqProofs
  | succ m ih =>
    intro i x2 x3 x4 x6 x7 x8 x9 x10 x11 x12 x13 x14 hi
    have e1 : (i : Int) < n := by omega
    have w1 : IntKind.i64.wrap ((i : Int) + 1) = ((i + 1 : Nat) : Int) := by rw [wi64 (by omega) (by omega)]; push_cast; rfl
    have w2 : IntKind.u64.wrap (((x / 2 ^ i : Nat) : Int).tdiv 2) = ((x / 2 ^ (i + 1) : Nat) : Int) := by
      rw [half, wrap_u64_lt (Nat.lt_of_le_of_lt (Nat.div_le_self _ _) hx)]
    have q : binIntA .quo .u64 ((x / 2 ^ i : Nat) : Int) 2 = some (.int .u64 (IntKind.u64.wrap (((x / 2 ^ i : Nat) : Int).tdiv 2))) := bi_quo (by decide)
    rw [oy_loop]
    simp -implicitDefEqProofs only [ox, ou, ko, ky, kn, kd, oy_seq, oy_ret, oy_exit, oy_skip, oy_cond, oy_block, oy_region, oy_draw, dr_eq, dre_some, stl_some, st_nil, st_op, ot, ov, os_same, sy_nil, sy_op, nxt_normal, nxt_ret, nxt_exit, blk_exit, blk_normal, blk_ret, reg_some, cnd_true, cnd_false, opr_some, grd_true, grd_false, fin_ret, fin_normal, finv_some, Region.wanted, opA, callV, aop, evalL, evalO, putE, binA, bi_add, bi_sub, bi_mul, bi_eql, bi_neq, bi_lss, bi_leq, bi_gtr, bi_geq, unA, ofVal, ofLeaf, resultsA, tupA, AV.rfL, AV.rf, yieldedA, List.replicate, Option.bind, heapFree, onlyReads, List.set, List.getD, List.getElem?_cons_succ, List.getElem?_cons_zero, Option.getD, Option.map, decide_true, decide_false, if_true, if_false, Bool.false_eq_true, Bool.not_true, Bool.not_false, beq_self_eq_true, Bool.true_and, Bool.and_true, Bool.and_self, Bool.false_and, Bool.and_false, Bool.true_or, Bool.or_true, Bool.false_or, Bool.or_false, Bool.or_self, List.length_cons, List.length_nil, List.cons_append, List.nil_append, ite_self, List.getElem?_toArray, Option.bind_some, Option.bind_none, og_tt, og_ff, og_tf, og_ft, Int.reduceBNe, Int.reduceBEq, Int.reduceLT, Int.reduceLE, e1, w1, w2, q]
    exact ih (i + 1) _ _ _ _ _ _ _ _ _ _ _ _ (by omega)
theorem below_run (x n : Nat) (hx : x < 2 ^ 64) (hn : n ≤ 1000) (lo : Nat) (H : Heap) : callA Try.prog (om Try.prog) lo 46 [.int .u64 x, .int .i64 n] H = some (.bool (decide (x < 2 ^ n)), H) := by
  obtain ⟨y2, y3, y4, y6, y7, y8, y9, y10, y11, y12, y13, y14, h⟩ := below_loop ⟨46, none⟩ H.next H x n hx hn n 0 undefA undefA (.bool false) undefA undefA undefA undefA undefA undefA undefA undefA undefA (by omega)
  rw [call_eq Try.func46 rfl rfl]
  have e : (((x / 2 ^ n : Nat) : Int) == 0) = decide (x < 2 ^ n) := by
    have := Nat.div_eq_zero_iff (a := x) (b := 2 ^ n)
    have h2 : 2 ^ n ≠ 0 := by have := Nat.two_pow_pos n; omega
    rw [Bool.eq_iff_iff]
    simp only [beq_iff_eq, decide_eq_true_eq]
    omega
  simp -implicitDefEqProofs only [loopAt, loopIn, firstC, Try.f46, Option.getD, if_true, Nat.pow_zero, Nat.div_one] at h ⊢
  simp -implicitDefEqProofs only [ox, ou, ko, ky, kn, kd, oy_seq, oy_ret, oy_exit, oy_skip, oy_cond, oy_block, oy_region, oy_draw, dr_eq, dre_some, stl_some, st_nil, st_op, ot, ov, os_same, sy_nil, sy_op, nxt_normal, nxt_ret, nxt_exit, blk_exit, blk_normal, blk_ret, reg_some, cnd_true, cnd_false, opr_some, grd_true, grd_false, fin_ret, fin_normal, finv_some, Region.wanted, opA, callV, aop, evalL, evalO, putE, binA, bi_add, bi_sub, bi_mul, bi_eql, bi_neq, bi_lss, bi_leq, bi_gtr, bi_geq, unA, ofVal, ofLeaf, resultsA, tupA, AV.rfL, AV.rf, yieldedA, List.replicate, Option.bind, heapFree, onlyReads, List.set, List.getD, List.getElem?_cons_succ, List.getElem?_cons_zero, Option.getD, Option.map, decide_true, decide_false, if_true, if_false, Bool.false_eq_true, Bool.not_true, Bool.not_false, beq_self_eq_true, Bool.true_and, Bool.and_true, Bool.and_self, Bool.false_and, Bool.and_false, Bool.true_or, Bool.or_true, Bool.false_or, Bool.or_false, Bool.or_self, List.length_cons, List.length_nil, List.cons_append, List.nil_append, ite_self, List.getElem?_toArray, Option.bind_some, Option.bind_none, og_tt, og_ff, og_tf, og_ft, Int.reduceBNe, Int.reduceBEq, Int.reduceLT, Int.reduceLE, List.length_cons, List.length_nil, List.cons_append, List.nil_append, Bool.true_and, c0, c1] at h ⊢
  simp -implicitDefEqProofs only [ox, ou, ko, ky, kn, kd, oy_seq, oy_ret, oy_exit, oy_skip, oy_cond, oy_block, oy_region, oy_draw, dr_eq, dre_some, stl_some, st_nil, st_op, ot, ov, os_same, sy_nil, sy_op, nxt_normal, nxt_ret, nxt_exit, blk_exit, blk_normal, blk_ret, reg_some, cnd_true, cnd_false, opr_some, grd_true, grd_false, fin_ret, fin_normal, finv_some, Region.wanted, opA, callV, aop, evalL, evalO, putE, binA, bi_add, bi_sub, bi_mul, bi_eql, bi_neq, bi_lss, bi_leq, bi_gtr, bi_geq, unA, ofVal, ofLeaf, resultsA, tupA, AV.rfL, AV.rf, yieldedA, List.replicate, Option.bind, heapFree, onlyReads, List.set, List.getD, List.getElem?_cons_succ, List.getElem?_cons_zero, Option.getD, Option.map, decide_true, decide_false, if_true, if_false, Bool.false_eq_true, Bool.not_true, Bool.not_false, beq_self_eq_true, Bool.true_and, Bool.and_true, Bool.and_self, Bool.false_and, Bool.and_false, Bool.true_or, Bool.or_true, Bool.false_or, Bool.or_false, Bool.or_self, List.length_cons, List.length_nil, List.cons_append, List.nil_append, ite_self, List.getElem?_toArray, Option.bind_some, Option.bind_none, og_tt, og_ff, og_tf, og_ft, Int.reduceBNe, Int.reduceBEq, Int.reduceLT, Int.reduceLE, h, e]
theorem bit_run (x n : Nat) (hx : x < 2 ^ 64) (hn : n ≤ 100) (lo : Nat) (H : Heap) : callA Try.prog (om Try.prog) lo 42 [.int .u64 x, .int .i64 n] H = some (.int .i64 ((x / 2 ^ n % 2 : Nat) : Int), H) := by
  obtain ⟨y2, y3, y4, y6, y7, y8, y9, y10, y11, y12, y13, y14, y15, h⟩ := bit_loop ⟨42, none⟩ H.next H x n hx hn n 0 undefA undefA (.int .i64 0) undefA undefA undefA undefA undefA undefA undefA undefA undefA undefA (by omega)
  rw [call_eq Try.func42 rfl rfl]
  have q : binIntA .rem .u64 ((x / 2 ^ n : Nat) : Int) 2 = some (.int .u64 ((x / 2 ^ n % 2 : Nat) : Int)) := by
    rw [bi_rem (by decide), Int.tmod_eq_emod_of_nonneg (Int.natCast_nonneg _)]; rfl
  have w : IntKind.i64.wrap ((x / 2 ^ n % 2 : Nat) : Int) = ((x / 2 ^ n % 2 : Nat) : Int) := wi64_nat (Nat.lt_of_lt_of_le (Nat.mod_lt _ (by decide)) (by decide))
  simp -implicitDefEqProofs only [loopAt, loopIn, firstC, Try.f42, Option.getD, if_true, Nat.pow_zero, Nat.div_one] at h ⊢
  simp -implicitDefEqProofs only [ox, ou, ko, ky, kn, kd, oy_seq, oy_ret, oy_exit, oy_skip, oy_cond, oy_block, oy_region, oy_draw, dr_eq, dre_some, stl_some, st_nil, st_op, ot, ov, os_same, sy_nil, sy_op, nxt_normal, nxt_ret, nxt_exit, blk_exit, blk_normal, blk_ret, reg_some, cnd_true, cnd_false, opr_some, grd_true, grd_false, fin_ret, fin_normal, finv_some, Region.wanted, opA, callV, aop, evalL, evalO, putE, binA, bi_add, bi_sub, bi_mul, bi_eql, bi_neq, bi_lss, bi_leq, bi_gtr, bi_geq, unA, ofVal, ofLeaf, resultsA, tupA, AV.rfL, AV.rf, yieldedA, List.replicate, Option.bind, heapFree, onlyReads, List.set, List.getD, List.getElem?_cons_succ, List.getElem?_cons_zero, Option.getD, Option.map, decide_true, decide_false, if_true, if_false, Bool.false_eq_true, Bool.not_true, Bool.not_false, beq_self_eq_true, Bool.true_and, Bool.and_true, Bool.and_self, Bool.false_and, Bool.and_false, Bool.true_or, Bool.or_true, Bool.false_or, Bool.or_false, Bool.or_self, List.length_cons, List.length_nil, List.cons_append, List.nil_append, ite_self, List.getElem?_toArray, Option.bind_some, Option.bind_none, og_tt, og_ff, og_tf, og_ft, Int.reduceBNe, Int.reduceBEq, Int.reduceLT, Int.reduceLE, List.length_cons, List.length_nil, List.cons_append, List.nil_append, Bool.true_and, c0, c1] at h ⊢
  simp -implicitDefEqProofs only [ox, ou, ko, ky, kn, kd, oy_seq, oy_ret, oy_exit, oy_skip, oy_cond, oy_block, oy_region, oy_draw, dr_eq, dre_some, stl_some, st_nil, st_op, ot, ov, os_same, sy_nil, sy_op, nxt_normal, nxt_ret, nxt_exit, blk_exit, blk_normal, blk_ret, reg_some, cnd_true, cnd_false, opr_some, grd_true, grd_false, fin_ret, fin_normal, finv_some, Region.wanted, opA, callV, aop, evalL, evalO, putE, binA, bi_add, bi_sub, bi_mul, bi_eql, bi_neq, bi_lss, bi_leq, bi_gtr, bi_geq, unA, ofVal, ofLeaf, resultsA, tupA, AV.rfL, AV.rf, yieldedA, List.replicate, Option.bind, heapFree, onlyReads, List.set, List.getD, List.getElem?_cons_succ, List.getElem?_cons_zero, Option.getD, Option.map, decide_true, decide_false, if_true, if_false, Bool.false_eq_true, Bool.not_true, Bool.not_false, beq_self_eq_true, Bool.true_and, Bool.and_true, Bool.and_self, Bool.false_and, Bool.and_false, Bool.true_or, Bool.or_true, Bool.false_or, Bool.or_false, Bool.or_self, List.length_cons, List.length_nil, List.cons_append, List.nil_append, ite_self, List.getElem?_toArray, Option.bind_some, Option.bind_none, og_tt, og_ff, og_tf, og_ft, Int.reduceBNe, Int.reduceBEq, Int.reduceLT, Int.reduceLE, h, q, convertA, Try.underlying22, Try.underlying3, w]
end Go.Proofs.Ytlbkcdfllglddaa.fmt
