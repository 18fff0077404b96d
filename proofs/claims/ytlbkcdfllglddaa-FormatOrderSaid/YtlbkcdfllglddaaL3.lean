/- FormatNumbers, the run: whatever numbers come in, the law returns true. Conditions: the numbers are of their kinds. -/
import Derived.Test.YtlbkcdfllglddaaBase
namespace Go.Proofs.Ytlbkcdfllglddaa.fmt
open Go Go.Ab
set_option maxRecDepth 100000
set_option linter.unusedSimpArgs false
set_option linter.unusedVariables false
attribute [local simp] ox ou ko ky kn kd oy_seq oy_ret oy_exit oy_skip oy_cond oy_block oy_region oy_draw dr_eq dre_some stl_some st_nil st_op ot ov os_same sy_nil sy_op nxt_normal nxt_ret nxt_exit blk_exit blk_normal blk_ret reg_some cnd_true cnd_false opr_some grd_true grd_false fin_ret fin_normal finv_some Region.wanted opA callV aop evalL evalO putE binA bi_add bi_sub bi_mul bi_eql bi_neq bi_lss bi_leq bi_gtr bi_geq unA ofVal ofLeaf resultsA tupA AV.rfL AV.rf yielded_yv yv_bool yv_undef yv_none og_n List.replicate Option.bind heapFree onlyReads
theorem rngT_tup (kk w s : Int) : ∃ a b c : Int, rngT kk w s = .tup [.int .i64 a, .int .i64 b, .int .i64 c] := by unfold rngT; split <;> exact ⟨_, _, _, rfl⟩
theorem fldT_tup (kk w s n : Int) : ∃ a c : Int, fldT kk w s n = .tup [.int .u64 a, .int .i64 c] := by unfold fldT; split <;> (try split) <;> exact ⟨_, _, rfl⟩
theorem numT_tup (kk w s : Int) (x : Nat) : ∃ a c : Int, numT kk w s x = .tup [.int .i64 a, .int .i64 c] := by unfold numT; split <;> (try split) <;> exact ⟨_, _, rfl⟩
theorem fitT_tup (kk s n : Int) : ∃ a c : Int, fitT kk s n = .tup [.int .i64 a, .int .i64 c] := by unfold fitT; split <;> (try split) <;> exact ⟨_, _, rfl⟩
theorem law3 (kk w s n : Int) (x : Nat) (hk0 : 0 ≤ kk) (hk : kk ≤ 255) (hn1 : -9223372036854775808 ≤ n) (hn2 : n ≤ 9223372036854775807) (hx : x < 2 ^ 64) (lo : Nat) (H : Heap) :
    callA Try.prog (om Try.prog) lo 3 [.int .u8 kk, .int .i64 w, .int .i64 s, .int .i64 n, .int .u64 x] H = some (.bool true, H) := by
  rw [call_eq Try.func3 rfl rfl]
  simp -implicitDefEqProofs only [Try.f3]
  obtain ⟨a, b, c, e1⟩ := rngT_tup kk w s
  obtain ⟨a2, c2, e2⟩ := fldT_tup kk w s n
  obtain ⟨a3, c3, e3⟩ := numT_tup kk w s x
  obtain ⟨a4, c4, e4⟩ := fitT_tup kk s n
  simp -implicitDefEqProofs only [ox, ou, ko, ky, kn, kd, oy_seq, oy_ret, oy_exit, oy_skip, oy_cond, oy_block, oy_region, oy_draw, dr_eq, dre_some, stl_some, st_nil, st_op, ot, ov, os_same, sy_nil, sy_op, nxt_normal, nxt_ret, nxt_exit, blk_exit, blk_normal, blk_ret, reg_some, cnd_true, cnd_false, opr_some, grd_true, grd_false, fin_ret, fin_normal, finv_some, Region.wanted, opA, callV, aop, evalL, evalO, putE, binA, bi_add, bi_sub, bi_mul, bi_eql, bi_neq, bi_lss, bi_leq, bi_gtr, bi_geq, unA, ofVal, ofLeaf, resultsA, tupA, AV.rfL, AV.rf, yielded_yv, yv_bool, yv_undef, yv_none, og_n, List.replicate, Option.bind, heapFree, onlyReads, List.set, List.getD, List.getElem?_cons_succ, List.getElem?_cons_zero, Option.getD, Option.map, decide_true, decide_false, if_true, if_false, Bool.false_eq_true, Bool.not_true, Bool.not_false, beq_self_eq_true, Bool.true_and, Bool.and_true, Bool.and_self, Bool.false_and, Bool.and_false, Bool.true_or, Bool.or_true, Bool.false_or, Bool.or_false, Bool.or_self, List.length_cons, List.length_nil, List.cons_append, List.nil_append, ite_self, List.getElem?_toArray, Option.bind_some, Option.bind_none, og_tt, og_ff, og_tf, og_ft, Int.reduceBNe, Int.reduceBEq, Int.reduceLT, Int.reduceLE, range_run kk w s hk0 hk, refRange_run kk w s, field_run kk w s n hk0 hk hn1 hn2, refField_run kk w s n hn1 hn2, prgNumber_run kk w s x hx hk0 hk, refNumber_run kk w s x hx, fit_run kk s n hk0 hk hn1 hn2, refFit_run kk s n hn1 hn2, e1, e2, e3, e4, List.getElem?_cons_succ, List.getElem?_cons_zero]
end Go.Proofs.Ytlbkcdfllglddaa.fmt
