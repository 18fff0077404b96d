/- The functions below the Format laws, 5: the program's Range, Field, Number, Fit. Conditions: the bounds in each statement. -/
import Derived.Test.YtlbkcdfllglddaaF4
namespace Go.Proofs.Ytlbkcdfllglddaa.fmt
open Go Go.Ab
set_option maxRecDepth 100000
set_option linter.unusedSimpArgs false
set_option linter.unusedVariables false
attribute [local simp] ox ou ko ky kn kd oy_seq oy_ret oy_exit oy_skip oy_cond oy_block oy_region oy_draw dr_eq dre_some stl_some st_nil st_op ot ov os_same sy_nil sy_op nxt_normal nxt_ret nxt_exit blk_exit blk_normal blk_ret reg_some cnd_true cnd_false opr_some grd_true grd_false fin_ret fin_normal finv_some Region.wanted opA callV aop evalL evalO putE binA bi_add bi_sub bi_mul bi_eql bi_neq bi_lss bi_leq bi_gtr bi_geq unA ofVal ofLeaf resultsA tupA AV.rfL AV.rf yielded_yv yv_bool yv_undef yv_none og_n List.replicate Option.bind heapFree onlyReads
theorem fits_run (x : Nat) (hx : x < 2 ^ 64) (w : Nat) (lo : Nat) (H : Heap) : callA Try.prog (om Try.prog) lo 35 [.int .u64 x, .int .i64 w] H = some (.bool (decide (x < 2 ^ w)), H) := by
  rw [call_eq Try.func35 rfl rfl]
  simp -implicitDefEqProofs only [Try.f35]
  have e : decide ((blen x : Int) ≤ (w : Int)) = decide (x < 2 ^ w) := by rw [decide_eq_decide, ← blen_le]; omega
  simp -implicitDefEqProofs only [ox, ou, ko, ky, kn, kd, oy_seq, oy_ret, oy_exit, oy_skip, oy_cond, oy_block, oy_region, oy_draw, dr_eq, dre_some, stl_some, st_nil, st_op, ot, ov, os_same, sy_nil, sy_op, nxt_normal, nxt_ret, nxt_exit, blk_exit, blk_normal, blk_ret, reg_some, cnd_true, cnd_false, opr_some, grd_true, grd_false, fin_ret, fin_normal, finv_some, Region.wanted, opA, callV, aop, evalL, evalO, putE, binA, bi_add, bi_sub, bi_mul, bi_eql, bi_neq, bi_lss, bi_leq, bi_gtr, bi_geq, unA, ofVal, ofLeaf, resultsA, tupA, AV.rfL, AV.rf, yielded_yv, yv_bool, yv_undef, yv_none, og_n, List.replicate, Option.bind, heapFree, onlyReads, List.set, List.getD, List.getElem?_cons_succ, List.getElem?_cons_zero, Option.getD, Option.map, decide_true, decide_false, if_true, if_false, Bool.false_eq_true, Bool.not_true, Bool.not_false, beq_self_eq_true, Bool.true_and, Bool.and_true, Bool.and_self, Bool.false_and, Bool.and_false, Bool.true_or, Bool.or_true, Bool.false_or, Bool.or_false, Bool.or_self, List.length_cons, List.length_nil, List.cons_append, List.nil_append, ite_self, List.getElem?_toArray, Option.bind_some, Option.bind_none, og_tt, og_ff, og_tf, og_ft, Int.reduceBNe, Int.reduceBEq, Int.reduceLT, Int.reduceLE, len64_run x hx, e]
theorem bmask_run (w : Nat) (h1 : 1 ≤ w) (h2 : w ≤ 64) (lo : Nat) (H : Heap) : callA Try.prog (om Try.prog) lo 33 [.int .i64 w] H = some (.int .u64 ((2 ^ w - 1 : Nat) : Int), H) := by
  rw [call_eq Try.func33 rfl rfl]
  simp -implicitDefEqProofs only [Try.f33]
  have g : (decide ((1 : Int) ≤ w) && decide ((w : Int) ≤ 64)) = true := by simp; omega
  have w1 : IntKind.i64.wrap (64 - (w : Int)) = ((64 - w : Nat) : Int) := by rw [wi64 (by omega) (by omega)]; omega
  have hp : (2 : Nat) ^ 64 = 2 ^ w * 2 ^ (64 - w) := by rw [← Nat.pow_add]; congr 1; omega
  have s : shiftA .shr .u64 18446744073709551615 ((64 - w : Nat) : Int) = some (.int .u64 ((2 ^ w - 1 : Nat) : Int)) := by
    have := u64_shr (a := 18446744073709551615) (y := 64 - w) (by omega)
    rw [show ((18446744073709551615 : Nat) : Int) = 18446744073709551615 from rfl] at this
    rw [this]
    have e : 18446744073709551615 / 2 ^ (64 - w) = 2 ^ w - 1 := by
      have h3 := Nat.two_pow_pos (64 - w)
      have h4 := Nat.two_pow_pos w
      have h5 : 18446744073709551615 = 2 ^ 64 - 1 := by decide
      rw [h5, hp]
      apply Nat.div_eq_of_lt_le
      · rw [Nat.sub_mul]; omega
      · rw [Nat.sub_add_cancel h4]; have := Nat.mul_pos h4 h3; omega
    rw [e]
  simp -implicitDefEqProofs only [ox, ou, ko, ky, kn, kd, oy_seq, oy_ret, oy_exit, oy_skip, oy_cond, oy_block, oy_region, oy_draw, dr_eq, dre_some, stl_some, st_nil, st_op, ot, ov, os_same, sy_nil, sy_op, nxt_normal, nxt_ret, nxt_exit, blk_exit, blk_normal, blk_ret, reg_some, cnd_true, cnd_false, opr_some, grd_true, grd_false, fin_ret, fin_normal, finv_some, Region.wanted, opA, callV, aop, evalL, evalO, putE, binA, bi_add, bi_sub, bi_mul, bi_eql, bi_neq, bi_lss, bi_leq, bi_gtr, bi_geq, unA, ofVal, ofLeaf, resultsA, tupA, AV.rfL, AV.rf, yielded_yv, yv_bool, yv_undef, yv_none, og_n, List.replicate, Option.bind, heapFree, onlyReads, List.set, List.getD, List.getElem?_cons_succ, List.getElem?_cons_zero, Option.getD, Option.map, decide_true, decide_false, if_true, if_false, Bool.false_eq_true, Bool.not_true, Bool.not_false, beq_self_eq_true, Bool.true_and, Bool.and_true, Bool.and_self, Bool.false_and, Bool.and_false, Bool.true_or, Bool.or_true, Bool.false_or, Bool.or_false, Bool.or_self, List.length_cons, List.length_nil, List.cons_append, List.nil_append, ite_self, List.getElem?_toArray, Option.bind_some, Option.bind_none, og_tt, og_ff, og_tf, og_ft, Int.reduceBNe, Int.reduceBEq, Int.reduceLT, Int.reduceLE, wide_run, g, w1, s]
theorem within_run (a b x : Int) (t : TypeId) (blk : Nat) (lo : Nat) (H : Heap) (hH : H.get blk = some (.cells t [.int .i64 x])) :
    callA Try.prog (om Try.prog) lo 29 [.int .i64 a, .int .i64 b, .sl blk 0 1 1] H = some (.bool (decide (a ≤ x) && decide (x ≤ b)), H) := by
  rw [call_eq Try.func29 rfl rfl]
  simp -implicitDefEqProofs only [Try.f29]
  have w1 : IntKind.i64.wrap (1 : Int) = 1 := by decide
  by_cases h1 : a ≤ x
  · have e1 : ¬ x < a := by omega
    by_cases h2 : x ≤ b
    · have e2 : ¬ b < x := by omega
      simp -implicitDefEqProofs [h1, e1, h2, e2, w1, lenTA, indexAddrA, loadA, cellsAt, sz3, ag3, hH, Try.underlying65, oy_loop]
    · have e2 : b < x := by omega
      simp -implicitDefEqProofs [h1, e1, h2, e2, w1, lenTA, indexAddrA, loadA, cellsAt, sz3, ag3, hH, Try.underlying65, oy_loop]
  · have e1 : x < a := by omega
    simp -implicitDefEqProofs [h1, e1, w1, lenTA, indexAddrA, loadA, cellsAt, sz3, ag3, hH, Try.underlying65, oy_loop]
theorem within_push (a b x : Int) (t : TypeId) (lo : Nat) (H : Heap) :
    callA Try.prog (om Try.prog) lo 29 [.int .i64 a, .int .i64 b, .sl H.next 0 1 1] (H.push (.cells t [.int .i64 x])) = some (.bool (decide (a ≤ x) && decide (x ≤ b)), H.push (.cells t [.int .i64 x])) :=
  within_run a b x t _ lo _ (by rw [Heap.get_push, if_pos rfl])
theorem build1 (x : Int) (H : Heap) : buildSliceA Try.prog H 65 1 [(0, .int .i64 x)] = some (.sl H.next 0 1 1, H.push (.cells 3 [.int .i64 x])) := by
  simp -implicitDefEqProofs [buildSliceA, Try.underlying65, sz3, ze3, fillA, zerosA, setRange, leafs, leafA, AV.cells]
theorem range_run (kk w s : Int) (hk0 : 0 ≤ kk) (hk : kk ≤ 255) (lo : Nat) (H : Heap) : callA Try.prog (om Try.prog) lo 12 [.int .u8 kk, .int .i64 w, .int .i64 s] H = some (rngT kk w s, H) := by
  have d7 := dr12_7
  rw [call_eq Try.func12 rfl rfl]
  simp -implicitDefEqProofs +decide only [regAt, regIn, Option.getD, Try.f12, if_true, if_false] at d7
  simp -implicitDefEqProofs only [Try.f12]
  have w0 : IntKind.i64.wrap kk = kk := wi64 (by omega) (by omega)
  cases hn : numOk kk w s with
  | false =>
    have hT : rngT kk w s = .tup [.int .i64 0, .int .i64 0, .int .i64 2] := by simp [rngT, hn]
    rw [hT]
    unfold numOk at hn
    generalize hb1 : (decide (2 ≤ kk) && decide (kk ≤ 4)) = b1 at hn
    generalize hb2 : (decide (1 ≤ w) && decide (w ≤ 32)) = b2 at hn
    generalize hb3 : (decide (0 ≤ s) && decide (s ≤ 3)) = b3 at hn
    cases b1 with
    | false => simp -implicitDefEqProofs only [ox, ou, ko, ky, kn, kd, oy_seq, oy_ret, oy_exit, oy_skip, oy_cond, oy_block, oy_region, oy_draw, dr_eq, dre_some, stl_some, st_nil, st_op, ot, ov, os_same, sy_nil, sy_op, nxt_normal, nxt_ret, nxt_exit, blk_exit, blk_normal, blk_ret, reg_some, cnd_true, cnd_false, opr_some, grd_true, grd_false, fin_ret, fin_normal, finv_some, Region.wanted, opA, callV, aop, evalL, evalO, putE, binA, bi_add, bi_sub, bi_mul, bi_eql, bi_neq, bi_lss, bi_leq, bi_gtr, bi_geq, unA, ofVal, ofLeaf, resultsA, tupA, AV.rfL, AV.rf, yielded_yv, yv_bool, yv_undef, yv_none, og_n, List.replicate, Option.bind, heapFree, onlyReads, List.set, List.getD, List.getElem?_cons_succ, List.getElem?_cons_zero, Option.getD, Option.map, decide_true, decide_false, if_true, if_false, Bool.false_eq_true, Bool.not_true, Bool.not_false, beq_self_eq_true, Bool.true_and, Bool.and_true, Bool.and_self, Bool.false_and, Bool.and_false, Bool.true_or, Bool.or_true, Bool.false_or, Bool.or_false, Bool.or_self, List.length_cons, List.length_nil, List.cons_append, List.nil_append, ite_self, List.getElem?_toArray, Option.bind_some, Option.bind_none, og_tt, og_ff, og_tf, og_ft, Int.reduceBNe, Int.reduceBEq, Int.reduceLT, Int.reduceLE, evalParts, build1, within_push, w0, hb1, hb2, hb3, convertA, Try.underlying3, Try.underlying5]
    | true => cases b2 with
      | false => simp -implicitDefEqProofs only [ox, ou, ko, ky, kn, kd, oy_seq, oy_ret, oy_exit, oy_skip, oy_cond, oy_block, oy_region, oy_draw, dr_eq, dre_some, stl_some, st_nil, st_op, ot, ov, os_same, sy_nil, sy_op, nxt_normal, nxt_ret, nxt_exit, blk_exit, blk_normal, blk_ret, reg_some, cnd_true, cnd_false, opr_some, grd_true, grd_false, fin_ret, fin_normal, finv_some, Region.wanted, opA, callV, aop, evalL, evalO, putE, binA, bi_add, bi_sub, bi_mul, bi_eql, bi_neq, bi_lss, bi_leq, bi_gtr, bi_geq, unA, ofVal, ofLeaf, resultsA, tupA, AV.rfL, AV.rf, yielded_yv, yv_bool, yv_undef, yv_none, og_n, List.replicate, Option.bind, heapFree, onlyReads, List.set, List.getD, List.getElem?_cons_succ, List.getElem?_cons_zero, Option.getD, Option.map, decide_true, decide_false, if_true, if_false, Bool.false_eq_true, Bool.not_true, Bool.not_false, beq_self_eq_true, Bool.true_and, Bool.and_true, Bool.and_self, Bool.false_and, Bool.and_false, Bool.true_or, Bool.or_true, Bool.false_or, Bool.or_false, Bool.or_self, List.length_cons, List.length_nil, List.cons_append, List.nil_append, ite_self, List.getElem?_toArray, Option.bind_some, Option.bind_none, og_tt, og_ff, og_tf, og_ft, Int.reduceBNe, Int.reduceBEq, Int.reduceLT, Int.reduceLE, evalParts, build1, within_push, w0, hb1, hb2, hb3, convertA, Try.underlying3, Try.underlying5]
      | true => cases b3 with
        | false => simp -implicitDefEqProofs only [ox, ou, ko, ky, kn, kd, oy_seq, oy_ret, oy_exit, oy_skip, oy_cond, oy_block, oy_region, oy_draw, dr_eq, dre_some, stl_some, st_nil, st_op, ot, ov, os_same, sy_nil, sy_op, nxt_normal, nxt_ret, nxt_exit, blk_exit, blk_normal, blk_ret, reg_some, cnd_true, cnd_false, opr_some, grd_true, grd_false, fin_ret, fin_normal, finv_some, Region.wanted, opA, callV, aop, evalL, evalO, putE, binA, bi_add, bi_sub, bi_mul, bi_eql, bi_neq, bi_lss, bi_leq, bi_gtr, bi_geq, unA, ofVal, ofLeaf, resultsA, tupA, AV.rfL, AV.rf, yielded_yv, yv_bool, yv_undef, yv_none, og_n, List.replicate, Option.bind, heapFree, onlyReads, List.set, List.getD, List.getElem?_cons_succ, List.getElem?_cons_zero, Option.getD, Option.map, decide_true, decide_false, if_true, if_false, Bool.false_eq_true, Bool.not_true, Bool.not_false, beq_self_eq_true, Bool.true_and, Bool.and_true, Bool.and_self, Bool.false_and, Bool.and_false, Bool.true_or, Bool.or_true, Bool.false_or, Bool.or_false, Bool.or_self, List.length_cons, List.length_nil, List.cons_append, List.nil_append, ite_self, List.getElem?_toArray, Option.bind_some, Option.bind_none, og_tt, og_ff, og_tf, og_ft, Int.reduceBNe, Int.reduceBEq, Int.reduceLT, Int.reduceLE, evalParts, build1, within_push, w0, hb1, hb2, hb3, convertA, Try.underlying3, Try.underlying5]
        | true => cases hn
  | true =>
    obtain ⟨k1, k2, hw, hw2, hs, hs2⟩ := numOk_iff.1 hn
    have hb1 : (decide (2 ≤ kk) && decide (kk ≤ 4)) = true := by simp [k1, k2]
    have hb2 : (decide (1 ≤ w) && decide (w ≤ 32)) = true := by simp [hw, hw2]
    have hb3 : (decide (0 ≤ s) && decide (s ≤ 3)) = true := by simp [hs, hs2]
    obtain ⟨w, rfl⟩ := Int.eq_ofNat_of_zero_le (show 0 ≤ w by omega)
    obtain ⟨s, rfl⟩ := Int.eq_ofNat_of_zero_le hs
    have be := ends_bd kk (show w ≤ 32 by omega)
    have bw := pw_bd (show w ≤ 32 by omega)
    have hs3 : s = 0 ∨ s = 1 ∨ s = 2 ∨ s = 3 := by omega
    have hpw : (2 : Nat) ^ w = 2 * 2 ^ (w - 1) := by rw [← Nat.pow_succ']; congr 1; omega
    have x1 : shiftA .shl .i64 1 (w : Int) = some (.int .i64 ((2 ^ w : Nat) : Int)) := by
      have e : (1 : Int) * 2 ^ w = ((2 ^ w : Nat) : Int) := by simp
      rw [i64_shl (by omega) (by rw [e]; omega) (by rw [e]; omega), e]
    have x2 : IntKind.i64.wrap (((2 ^ w : Nat) : Int) - 1) = ((2 ^ w : Nat) : Int) - 1 := wi64 (by omega) (by omega)
    have xs : ∀ z : Int, -2147483648 ≤ z → z ≤ 4294967295 → shiftA .shl .i64 z (s : Int) = some (.int .i64 (pow s * z)) := by
      intro z h1 h2
      rw [i64_shl (by omega) (by rcases hs3 with rfl | rfl | rfl | rfl <;> omega) (by rcases hs3 with rfl | rfl | rfl | rfl <;> omega), Int.mul_comm]
      simp [pow]
    have y1 := xs (nLow kk w) (by omega) (by omega)
    have y2 := xs (nHigh kk w) (by omega) (by omega)
    by_cases hk3 : kk = 3
    · have e1 : nLow kk w = 0 := by simp [nLow, hk3]
      have e2 : nHigh kk w = ((2 ^ w : Nat) : Int) - 1 := by simp [nHigh, hk3]
      have n3 : (kk != 3) = false := by simp [hk3]
      rw [e1] at y1
      rw [e2] at y2
      simp -implicitDefEqProofs only [ox, ou, ko, ky, kn, kd, oy_seq, oy_ret, oy_exit, oy_skip, oy_cond, oy_block, oy_region, oy_draw, dr_eq, dre_some, stl_some, st_nil, st_op, ot, ov, os_same, sy_nil, sy_op, nxt_normal, nxt_ret, nxt_exit, blk_exit, blk_normal, blk_ret, reg_some, cnd_true, cnd_false, opr_some, grd_true, grd_false, fin_ret, fin_normal, finv_some, Region.wanted, opA, callV, aop, evalL, evalO, putE, binA, bi_add, bi_sub, bi_mul, bi_eql, bi_neq, bi_lss, bi_leq, bi_gtr, bi_geq, unA, ofVal, ofLeaf, resultsA, tupA, AV.rfL, AV.rf, yielded_yv, yv_bool, yv_undef, yv_none, og_n, List.replicate, Option.bind, heapFree, onlyReads, List.set, List.getD, List.getElem?_cons_succ, List.getElem?_cons_zero, Option.getD, Option.map, decide_true, decide_false, if_true, if_false, Bool.false_eq_true, Bool.not_true, Bool.not_false, beq_self_eq_true, Bool.true_and, Bool.and_true, Bool.and_self, Bool.false_and, Bool.and_false, Bool.true_or, Bool.or_true, Bool.false_or, Bool.or_false, Bool.or_self, List.length_cons, List.length_nil, List.cons_append, List.nil_append, ite_self, List.getElem?_toArray, Option.bind_some, Option.bind_none, og_tt, og_ff, og_tf, og_ft, Int.reduceBNe, Int.reduceBEq, Int.reduceLT, Int.reduceLE, evalParts, build1, within_push, w0, hb1, hb2, hb3, convertA, Try.underlying3, Try.underlying5, x1, x2, n3, d7, y1, y2, List.take, List.drop, rngT, hn, e1, e2, Int.toNat_natCast]
    · have e1 : nLow kk w = -((2 ^ (w - 1) : Nat) : Int) := by simp [nLow, hk3]
      have e2 : nHigh kk w = ((2 ^ (w - 1) : Nat) : Int) - 1 := by simp [nHigh, hk3]
      have n3 : (kk != 3) = true := by simp [hk3]
      have x3 : shiftA .shr .i64 (((2 ^ w : Nat) : Int) - 1) 1 = some (.int .i64 (nHigh kk w)) := by
        have := i64_shr (a := ((2 ^ w : Nat) : Int) - 1) (y := 1) (by decide)
        rw [show ((1 : Nat) : Int) = 1 from rfl] at this
        rw [this, e2]
        congr 2; omega
      have x4 : IntKind.i64.wrap (0 - nHigh kk w) = - nHigh kk w := by rw [wi64 (by omega) (by omega)]; omega
      have x5 : IntKind.i64.wrap (- nHigh kk w - 1) = nLow kk w := by rw [wi64 (by omega) (by omega)]; omega
      simp -implicitDefEqProofs only [ox, ou, ko, ky, kn, kd, oy_seq, oy_ret, oy_exit, oy_skip, oy_cond, oy_block, oy_region, oy_draw, dr_eq, dre_some, stl_some, st_nil, st_op, ot, ov, os_same, sy_nil, sy_op, nxt_normal, nxt_ret, nxt_exit, blk_exit, blk_normal, blk_ret, reg_some, cnd_true, cnd_false, opr_some, grd_true, grd_false, fin_ret, fin_normal, finv_some, Region.wanted, opA, callV, aop, evalL, evalO, putE, binA, bi_add, bi_sub, bi_mul, bi_eql, bi_neq, bi_lss, bi_leq, bi_gtr, bi_geq, unA, ofVal, ofLeaf, resultsA, tupA, AV.rfL, AV.rf, yielded_yv, yv_bool, yv_undef, yv_none, og_n, List.replicate, Option.bind, heapFree, onlyReads, List.set, List.getD, List.getElem?_cons_succ, List.getElem?_cons_zero, Option.getD, Option.map, decide_true, decide_false, if_true, if_false, Bool.false_eq_true, Bool.not_true, Bool.not_false, beq_self_eq_true, Bool.true_and, Bool.and_true, Bool.and_self, Bool.false_and, Bool.and_false, Bool.true_or, Bool.or_true, Bool.false_or, Bool.or_false, Bool.or_self, List.length_cons, List.length_nil, List.cons_append, List.nil_append, ite_self, List.getElem?_toArray, Option.bind_some, Option.bind_none, og_tt, og_ff, og_tf, og_ft, Int.reduceBNe, Int.reduceBEq, Int.reduceLT, Int.reduceLE, evalParts, build1, within_push, w0, hb1, hb2, hb3, convertA, Try.underlying3, Try.underlying5, x1, x2, n3, x3, x4, x5, d7, y1, y2, List.take, List.drop, rngT, hn, Int.toNat_natCast]
theorem field_run (kk w s n : Int) (hk0 : 0 ≤ kk) (hk : kk ≤ 255) (hn1 : -9223372036854775808 ≤ n) (hn2 : n ≤ 9223372036854775807) (lo : Nat) (H : Heap) :
    callA Try.prog (om Try.prog) lo 14 [.int .u8 kk, .int .i64 w, .int .i64 s, .int .i64 n] H = some (fldT kk w s n, H) := by
  have d6 := dr14_6
  rw [call_eq Try.func14 rfl rfl]
  simp -implicitDefEqProofs +decide only [regAt, regIn, Option.getD, Try.f14, if_true, if_false] at d6
  simp -implicitDefEqProofs only [Try.f14]
  have hr := range_run kk w s hk0 hk
  unfold rngT at hr
  cases hn : numOk kk w s with
  | false =>
    simp only [hn, Bool.false_eq_true, if_false] at hr
    simp -implicitDefEqProofs only [ox, ou, ko, ky, kn, kd, oy_seq, oy_ret, oy_exit, oy_skip, oy_cond, oy_block, oy_region, oy_draw, dr_eq, dre_some, stl_some, st_nil, st_op, ot, ov, os_same, sy_nil, sy_op, nxt_normal, nxt_ret, nxt_exit, blk_exit, blk_normal, blk_ret, reg_some, cnd_true, cnd_false, opr_some, grd_true, grd_false, fin_ret, fin_normal, finv_some, Region.wanted, opA, callV, aop, evalL, evalO, putE, binA, bi_add, bi_sub, bi_mul, bi_eql, bi_neq, bi_lss, bi_leq, bi_gtr, bi_geq, unA, ofVal, ofLeaf, resultsA, tupA, AV.rfL, AV.rf, yielded_yv, yv_bool, yv_undef, yv_none, og_n, List.replicate, Option.bind, heapFree, onlyReads, List.set, List.getD, List.getElem?_cons_succ, List.getElem?_cons_zero, Option.getD, Option.map, decide_true, decide_false, if_true, if_false, Bool.false_eq_true, Bool.not_true, Bool.not_false, beq_self_eq_true, Bool.true_and, Bool.and_true, Bool.and_self, Bool.false_and, Bool.and_false, Bool.true_or, Bool.or_true, Bool.false_or, Bool.or_false, Bool.or_self, List.length_cons, List.length_nil, List.cons_append, List.nil_append, ite_self, List.getElem?_toArray, Option.bind_some, Option.bind_none, og_tt, og_ff, og_tf, og_ft, Int.reduceBNe, Int.reduceBEq, Int.reduceLT, Int.reduceLE, hr, fldT, hn, List.getElem?_cons_succ, List.getElem?_cons_zero]
  | true =>
    simp only [hn, if_true] at hr
    obtain ⟨k1, k2, hw, hw2, hs, hs2⟩ := numOk_iff.1 hn
    obtain ⟨w, rfl⟩ := Int.eq_ofNat_of_zero_le (show 0 ≤ w by omega)
    obtain ⟨s, rfl⟩ := Int.eq_ofNat_of_zero_le hs
    simp only [Int.toNat_natCast] at hr
    have be := ends_bd kk (show w ≤ 32 by omega)
    have bw := pw_bd (show w ≤ 32 by omega)
    have bs := pw_bd (show s ≤ 3 by omega)
    have hs3 : s = 0 ∨ s = 1 ∨ s = 2 ∨ s = 3 := by omega
    obtain ⟨k, hk⟩ : ∃ k, k = n / pow s := ⟨_, rfl⟩
    obtain ⟨r, hr0⟩ : ∃ r, r = n % pow s := ⟨_, rfl⟩
    have hnk : n = pow s * k + r ∧ 0 ≤ r ∧ r < pow s := by
      have h1 := Int.mul_ediv_add_emod n (pow s)
      have h2 : pow s ≠ 0 := by unfold pow; omega
      have h3 := Int.emod_nonneg n h2
      have h4 := Int.emod_lt_of_pos n (show 0 < pow s by unfold pow; omega)
      rw [← hk, ← hr0] at h1; omega
    have x1 : shiftA .shr .i64 n (s : Int) = some (.int .i64 k) := by
      rw [i64_shr (by omega), hk]; simp [pow]
    have xb : -9223372036854775808 ≤ pow s * k ∧ pow s * k ≤ 9223372036854775807 := by
      rcases hs3 with rfl | rfl | rfl | rfl <;> simp only [pow] at hnk ⊢ <;> omega
    have x2 : shiftA .shl .i64 k (s : Int) = some (.int .i64 (pow s * k)) := by
      have e : k * 2 ^ s = pow s * k := by rw [Int.mul_comm]; simp [pow]
      rw [i64_shl (by omega) (by rw [e]; omega) (by rw [e]; omega), e]
    have hin : inF kk w s n = (decide (r = 0) && (decide (nLow kk w ≤ k) && decide (k ≤ nHigh kk w))) := by
      simp only [inF, hk, hr0, pow]
    by_cases c1 : n < pow s * nLow kk w
    · have hf : inF kk w s n = false := by
        rw [hin]; simp only [Bool.and_eq_false_iff, decide_eq_false_iff_not]
        right; left
        rcases hs3 with rfl | rfl | rfl | rfl <;> simp only [pow] at hnk c1 <;> omega
      simp -implicitDefEqProofs only [ox, ou, ko, ky, kn, kd, oy_seq, oy_ret, oy_exit, oy_skip, oy_cond, oy_block, oy_region, oy_draw, dr_eq, dre_some, stl_some, st_nil, st_op, ot, ov, os_same, sy_nil, sy_op, nxt_normal, nxt_ret, nxt_exit, blk_exit, blk_normal, blk_ret, reg_some, cnd_true, cnd_false, opr_some, grd_true, grd_false, fin_ret, fin_normal, finv_some, Region.wanted, opA, callV, aop, evalL, evalO, putE, binA, bi_add, bi_sub, bi_mul, bi_eql, bi_neq, bi_lss, bi_leq, bi_gtr, bi_geq, unA, ofVal, ofLeaf, resultsA, tupA, AV.rfL, AV.rf, yielded_yv, yv_bool, yv_undef, yv_none, og_n, List.replicate, Option.bind, heapFree, onlyReads, List.set, List.getD, List.getElem?_cons_succ, List.getElem?_cons_zero, Option.getD, Option.map, decide_true, decide_false, if_true, if_false, Bool.false_eq_true, Bool.not_true, Bool.not_false, beq_self_eq_true, Bool.true_and, Bool.and_true, Bool.and_self, Bool.false_and, Bool.and_false, Bool.true_or, Bool.or_true, Bool.false_or, Bool.or_false, Bool.or_self, List.length_cons, List.length_nil, List.cons_append, List.nil_append, ite_self, List.getElem?_toArray, Option.bind_some, Option.bind_none, og_tt, og_ff, og_tf, og_ft, Int.reduceBNe, Int.reduceBEq, Int.reduceLT, Int.reduceLE, hr, fldT, hn, hf, c1, Int.toNat_natCast, List.getElem?_cons_succ, List.getElem?_cons_zero, show (((0 : Int) != 0) = false) from rfl]
    · by_cases c2 : pow s * nHigh kk w < n
      · have hf : inF kk w s n = false ∨ r ≠ 0 := by
          by_cases hr : r = 0
          · left; rw [hin]; simp only [Bool.and_eq_false_iff, decide_eq_false_iff_not]
            right; right
            rcases hs3 with rfl | rfl | rfl | rfl <;> simp only [pow] at hnk c2 <;> omega
          · right; exact hr
        have hf : inF kk w s n = false := by
          rcases hf with h | h
          · exact h
          · rw [hin]; simp [h]
        simp -implicitDefEqProofs only [ox, ou, ko, ky, kn, kd, oy_seq, oy_ret, oy_exit, oy_skip, oy_cond, oy_block, oy_region, oy_draw, dr_eq, dre_some, stl_some, st_nil, st_op, ot, ov, os_same, sy_nil, sy_op, nxt_normal, nxt_ret, nxt_exit, blk_exit, blk_normal, blk_ret, reg_some, cnd_true, cnd_false, opr_some, grd_true, grd_false, fin_ret, fin_normal, finv_some, Region.wanted, opA, callV, aop, evalL, evalO, putE, binA, bi_add, bi_sub, bi_mul, bi_eql, bi_neq, bi_lss, bi_leq, bi_gtr, bi_geq, unA, ofVal, ofLeaf, resultsA, tupA, AV.rfL, AV.rf, yielded_yv, yv_bool, yv_undef, yv_none, og_n, List.replicate, Option.bind, heapFree, onlyReads, List.set, List.getD, List.getElem?_cons_succ, List.getElem?_cons_zero, Option.getD, Option.map, decide_true, decide_false, if_true, if_false, Bool.false_eq_true, Bool.not_true, Bool.not_false, beq_self_eq_true, Bool.true_and, Bool.and_true, Bool.and_self, Bool.false_and, Bool.and_false, Bool.true_or, Bool.or_true, Bool.false_or, Bool.or_false, Bool.or_self, List.length_cons, List.length_nil, List.cons_append, List.nil_append, ite_self, List.getElem?_toArray, Option.bind_some, Option.bind_none, og_tt, og_ff, og_tf, og_ft, Int.reduceBNe, Int.reduceBEq, Int.reduceLT, Int.reduceLE, hr, fldT, hn, hf, c1, c2, Int.toNat_natCast, List.getElem?_cons_succ, List.getElem?_cons_zero, show (((0 : Int) != 0) = false) from rfl]
      · by_cases c3 : r = 0
        · have e3 : (pow s * k != n) = false := by simp; omega
          have hf : inF kk w s n = true := by
            rw [hin]; simp only [Bool.and_eq_true, decide_eq_true_eq]
            refine ⟨c3, ?_, ?_⟩ <;> rcases hs3 with rfl | rfl | rfl | rfl <;> simp only [pow] at hnk c1 c2 <;> omega
          have hkm : ∃ j : Nat, IntKind.u64.wrap k = (j : Int) ∧ j < 2 ^ 64 ∧ (j : Int) = k % 18446744073709551616 := by
            refine ⟨(k % 18446744073709551616).toNat, ?_, ?_, ?_⟩
            · simp [IntKind.wrap, IntKind.bits, IntKind.signed]; omega
            · omega
            · omega
          obtain ⟨j, j1, j2, j3⟩ := hkm
          have a1 : binIntA .and .u64 (j : Int) ((2 ^ w - 1 : Nat) : Int) = some (.int .u64 (n / pow s % pow w)) := by
            rw [Go.Ab.u64_and j2 (by have := two_pow_lt (show w < 64 by omega); omega), Nat.and_two_pow_sub_one_eq_mod]
            congr 2
            rw [← hk]
            have e : ((j % 2 ^ w : Nat) : Int) = (j : Int) % pow w := by simp [pow]
            rw [e, j3]
            refine Int.emod_emod_of_dvd k ?_
            have : (18446744073709551616 : Int) = pow w * pow (64 - w) := by
              simp only [pow, ← Int.natCast_mul, ← Nat.pow_add]
              rw [show w + (64 - w) = 64 by omega]; rfl
            exact ⟨_, this⟩
          simp -implicitDefEqProofs only [ox, ou, ko, ky, kn, kd, oy_seq, oy_ret, oy_exit, oy_skip, oy_cond, oy_block, oy_region, oy_draw, dr_eq, dre_some, stl_some, st_nil, st_op, ot, ov, os_same, sy_nil, sy_op, nxt_normal, nxt_ret, nxt_exit, blk_exit, blk_normal, blk_ret, reg_some, cnd_true, cnd_false, opr_some, grd_true, grd_false, fin_ret, fin_normal, finv_some, Region.wanted, opA, callV, aop, evalL, evalO, putE, binA, bi_add, bi_sub, bi_mul, bi_eql, bi_neq, bi_lss, bi_leq, bi_gtr, bi_geq, unA, ofVal, ofLeaf, resultsA, tupA, AV.rfL, AV.rf, yielded_yv, yv_bool, yv_undef, yv_none, og_n, List.replicate, Option.bind, heapFree, onlyReads, List.set, List.getD, List.getElem?_cons_succ, List.getElem?_cons_zero, Option.getD, Option.map, decide_true, decide_false, if_true, if_false, Bool.false_eq_true, Bool.not_true, Bool.not_false, beq_self_eq_true, Bool.true_and, Bool.and_true, Bool.and_self, Bool.false_and, Bool.and_false, Bool.true_or, Bool.or_true, Bool.false_or, Bool.or_false, Bool.or_self, List.length_cons, List.length_nil, List.cons_append, List.nil_append, ite_self, List.getElem?_toArray, Option.bind_some, Option.bind_none, og_tt, og_ff, og_tf, og_ft, Int.reduceBNe, Int.reduceBEq, Int.reduceLT, Int.reduceLE, hr, fldT, hn, hf, c1, c2, x1, x2, e3, d6, convertA, Try.underlying3, Try.underlying22, j1, bmask_run w (by omega) (by omega), a1, List.take, List.drop, Int.toNat_natCast, List.getElem?_cons_succ, List.getElem?_cons_zero, show (((0 : Int) != 0) = false) from rfl]
        · have e3 : (pow s * k != n) = true := by simp; omega
          have hf : inF kk w s n = false := by rw [hin]; simp [c3]
          simp -implicitDefEqProofs only [ox, ou, ko, ky, kn, kd, oy_seq, oy_ret, oy_exit, oy_skip, oy_cond, oy_block, oy_region, oy_draw, dr_eq, dre_some, stl_some, st_nil, st_op, ot, ov, os_same, sy_nil, sy_op, nxt_normal, nxt_ret, nxt_exit, blk_exit, blk_normal, blk_ret, reg_some, cnd_true, cnd_false, opr_some, grd_true, grd_false, fin_ret, fin_normal, finv_some, Region.wanted, opA, callV, aop, evalL, evalO, putE, binA, bi_add, bi_sub, bi_mul, bi_eql, bi_neq, bi_lss, bi_leq, bi_gtr, bi_geq, unA, ofVal, ofLeaf, resultsA, tupA, AV.rfL, AV.rf, yielded_yv, yv_bool, yv_undef, yv_none, og_n, List.replicate, Option.bind, heapFree, onlyReads, List.set, List.getD, List.getElem?_cons_succ, List.getElem?_cons_zero, Option.getD, Option.map, decide_true, decide_false, if_true, if_false, Bool.false_eq_true, Bool.not_true, Bool.not_false, beq_self_eq_true, Bool.true_and, Bool.and_true, Bool.and_self, Bool.false_and, Bool.and_false, Bool.true_or, Bool.or_true, Bool.false_or, Bool.or_false, Bool.or_self, List.length_cons, List.length_nil, List.cons_append, List.nil_append, ite_self, List.getElem?_toArray, Option.bind_some, Option.bind_none, og_tt, og_ff, og_tf, og_ft, Int.reduceBNe, Int.reduceBEq, Int.reduceLT, Int.reduceLE, hr, fldT, hn, hf, c1, c2, x1, x2, e3, Int.toNat_natCast, List.getElem?_cons_succ, List.getElem?_cons_zero, show (((0 : Int) != 0) = false) from rfl]
theorem prgNumber_run (kk w s : Int) (x : Nat) (hx : x < 2 ^ 64) (hk0 : 0 ≤ kk) (hk : kk ≤ 255) (lo : Nat) (H : Heap) :
    callA Try.prog (om Try.prog) lo 16 [.int .u8 kk, .int .i64 w, .int .i64 s, .int .u64 x] H = some (numT kk w s x, H) := by
  rw [call_eq Try.func16 rfl rfl]
  simp -implicitDefEqProofs only [Try.f16]
  have hr := range_run kk w s hk0 hk
  unfold rngT at hr
  cases hn : numOk kk w s with
  | false =>
    simp only [hn, Bool.false_eq_true, if_false] at hr
    simp -implicitDefEqProofs only [ox, ou, ko, ky, kn, kd, oy_seq, oy_ret, oy_exit, oy_skip, oy_cond, oy_block, oy_region, oy_draw, dr_eq, dre_some, stl_some, st_nil, st_op, ot, ov, os_same, sy_nil, sy_op, nxt_normal, nxt_ret, nxt_exit, blk_exit, blk_normal, blk_ret, reg_some, cnd_true, cnd_false, opr_some, grd_true, grd_false, fin_ret, fin_normal, finv_some, Region.wanted, opA, callV, aop, evalL, evalO, putE, binA, bi_add, bi_sub, bi_mul, bi_eql, bi_neq, bi_lss, bi_leq, bi_gtr, bi_geq, unA, ofVal, ofLeaf, resultsA, tupA, AV.rfL, AV.rf, yielded_yv, yv_bool, yv_undef, yv_none, og_n, List.replicate, Option.bind, heapFree, onlyReads, List.set, List.getD, List.getElem?_cons_succ, List.getElem?_cons_zero, Option.getD, Option.map, decide_true, decide_false, if_true, if_false, Bool.false_eq_true, Bool.not_true, Bool.not_false, beq_self_eq_true, Bool.true_and, Bool.and_true, Bool.and_self, Bool.false_and, Bool.and_false, Bool.true_or, Bool.or_true, Bool.false_or, Bool.or_false, Bool.or_self, List.length_cons, List.length_nil, List.cons_append, List.nil_append, ite_self, List.getElem?_toArray, Option.bind_some, Option.bind_none, og_tt, og_ff, og_tf, og_ft, Int.reduceBNe, Int.reduceBEq, Int.reduceLT, Int.reduceLE, hr, numT, hn, List.getElem?_cons_succ, List.getElem?_cons_zero]
  | true =>
    simp only [hn, if_true] at hr
    obtain ⟨k1, k2, hw, hw2, hs, hs2⟩ := numOk_iff.1 hn
    obtain ⟨w, rfl⟩ := Int.eq_ofNat_of_zero_le (show 0 ≤ w by omega)
    obtain ⟨s, rfl⟩ := Int.eq_ofNat_of_zero_le hs
    simp only [Int.toNat_natCast] at hr
    have be := ends_bd kk (show w ≤ 32 by omega)
    have bw := pw_bd (show w ≤ 32 by omega)
    have bs := pw_bd (show s ≤ 3 by omega)
    have hs3 : s = 0 ∨ s = 1 ∨ s = 2 ∨ s = 3 := by omega
    by_cases hxw : x < 2 ^ w
    · have w0 : IntKind.i64.wrap (x : Int) = x := wi64 (by omega) (by omega)
      have xb : 0 ≤ pow s * (x : Int) ∧ pow s * (x : Int) ≤ 9223372036854775807 := by
        rcases hs3 with rfl | rfl | rfl | rfl <;> simp only [pow] <;> omega
      have x2 : shiftA .shl .i64 (x : Int) (s : Int) = some (.int .i64 (pow s * x)) := by
        have e : (x : Int) * 2 ^ s = pow s * x := by rw [Int.mul_comm]; simp [pow]
        rw [i64_shl (by omega) (by rw [e]; omega) (by rw [e]; omega), e]
      have x3 : IntKind.i64.wrap ((w : Int) + (s : Int)) = ((w + s : Nat) : Int) := by rw [wi64 (by omega) (by omega)]; push_cast; rfl
      have b4 := pw_bd (show w + s ≤ 35 by omega)
      have x4 : shiftA .shl .i64 1 ((w + s : Nat) : Int) = some (.int .i64 ((2 ^ (w + s) : Nat) : Int)) := by
        have e : (1 : Int) * 2 ^ (w + s) = ((2 ^ (w + s) : Nat) : Int) := by simp
        rw [i64_shl (by omega) (by rw [e]; omega) (by rw [e]; omega), e]
      have e5 : ((2 ^ (w + s) : Nat) : Int) = pow s * pow w := by
        simp only [pow, ← Int.natCast_mul, ← Nat.pow_add]; rw [Nat.add_comm]
      have x5 : IntKind.i64.wrap (pow s * (x : Int) - ((2 ^ (w + s) : Nat) : Int)) = pow s * ((x : Int) - pow w) := by
        rw [wi64 (by omega) (by omega), e5, Int.mul_sub]
      by_cases hh : nHigh kk w < x
      · have g : decide (pow s * nHigh kk w < pow s * (x : Int)) = true := by
          simp only [decide_eq_true_eq]; rcases hs3 with rfl | rfl | rfl | rfl <;> simp only [pow] <;> omega
        simp -implicitDefEqProofs only [ox, ou, ko, ky, kn, kd, oy_seq, oy_ret, oy_exit, oy_skip, oy_cond, oy_block, oy_region, oy_draw, dr_eq, dre_some, stl_some, st_nil, st_op, ot, ov, os_same, sy_nil, sy_op, nxt_normal, nxt_ret, nxt_exit, blk_exit, blk_normal, blk_ret, reg_some, cnd_true, cnd_false, opr_some, grd_true, grd_false, fin_ret, fin_normal, finv_some, Region.wanted, opA, callV, aop, evalL, evalO, putE, binA, bi_add, bi_sub, bi_mul, bi_eql, bi_neq, bi_lss, bi_leq, bi_gtr, bi_geq, unA, ofVal, ofLeaf, resultsA, tupA, AV.rfL, AV.rf, yielded_yv, yv_bool, yv_undef, yv_none, og_n, List.replicate, Option.bind, heapFree, onlyReads, List.set, List.getD, List.getElem?_cons_succ, List.getElem?_cons_zero, Option.getD, Option.map, decide_true, decide_false, if_true, if_false, Bool.false_eq_true, Bool.not_true, Bool.not_false, beq_self_eq_true, Bool.true_and, Bool.and_true, Bool.and_self, Bool.false_and, Bool.and_false, Bool.true_or, Bool.or_true, Bool.false_or, Bool.or_false, Bool.or_self, List.length_cons, List.length_nil, List.cons_append, List.nil_append, ite_self, List.getElem?_toArray, Option.bind_some, Option.bind_none, og_tt, og_ff, og_tf, og_ft, Int.reduceBNe, Int.reduceBEq, Int.reduceLT, Int.reduceLE, hr, hn, fits_run x hx, hxw, w0, x2, g, x3, x4, x5, hh, numT, numV, Int.toNat_natCast, convertA, Try.underlying3, Try.underlying22, List.getElem?_cons_succ, List.getElem?_cons_zero, show (((0 : Int) != 0) = false) from rfl]
      · have g : decide (pow s * nHigh kk w < pow s * (x : Int)) = false := by
          simp only [decide_eq_false_iff_not]; rcases hs3 with rfl | rfl | rfl | rfl <;> simp only [pow] <;> omega
        simp -implicitDefEqProofs only [ox, ou, ko, ky, kn, kd, oy_seq, oy_ret, oy_exit, oy_skip, oy_cond, oy_block, oy_region, oy_draw, dr_eq, dre_some, stl_some, st_nil, st_op, ot, ov, os_same, sy_nil, sy_op, nxt_normal, nxt_ret, nxt_exit, blk_exit, blk_normal, blk_ret, reg_some, cnd_true, cnd_false, opr_some, grd_true, grd_false, fin_ret, fin_normal, finv_some, Region.wanted, opA, callV, aop, evalL, evalO, putE, binA, bi_add, bi_sub, bi_mul, bi_eql, bi_neq, bi_lss, bi_leq, bi_gtr, bi_geq, unA, ofVal, ofLeaf, resultsA, tupA, AV.rfL, AV.rf, yielded_yv, yv_bool, yv_undef, yv_none, og_n, List.replicate, Option.bind, heapFree, onlyReads, List.set, List.getD, List.getElem?_cons_succ, List.getElem?_cons_zero, Option.getD, Option.map, decide_true, decide_false, if_true, if_false, Bool.false_eq_true, Bool.not_true, Bool.not_false, beq_self_eq_true, Bool.true_and, Bool.and_true, Bool.and_self, Bool.false_and, Bool.and_false, Bool.true_or, Bool.or_true, Bool.false_or, Bool.or_false, Bool.or_self, List.length_cons, List.length_nil, List.cons_append, List.nil_append, ite_self, List.getElem?_toArray, Option.bind_some, Option.bind_none, og_tt, og_ff, og_tf, og_ft, Int.reduceBNe, Int.reduceBEq, Int.reduceLT, Int.reduceLE, hr, hn, fits_run x hx, hxw, w0, x2, g, hh, numT, numV, Int.toNat_natCast, convertA, Try.underlying3, Try.underlying22, List.getElem?_cons_succ, List.getElem?_cons_zero, show (((0 : Int) != 0) = false) from rfl]
    · simp -implicitDefEqProofs only [ox, ou, ko, ky, kn, kd, oy_seq, oy_ret, oy_exit, oy_skip, oy_cond, oy_block, oy_region, oy_draw, dr_eq, dre_some, stl_some, st_nil, st_op, ot, ov, os_same, sy_nil, sy_op, nxt_normal, nxt_ret, nxt_exit, blk_exit, blk_normal, blk_ret, reg_some, cnd_true, cnd_false, opr_some, grd_true, grd_false, fin_ret, fin_normal, finv_some, Region.wanted, opA, callV, aop, evalL, evalO, putE, binA, bi_add, bi_sub, bi_mul, bi_eql, bi_neq, bi_lss, bi_leq, bi_gtr, bi_geq, unA, ofVal, ofLeaf, resultsA, tupA, AV.rfL, AV.rf, yielded_yv, yv_bool, yv_undef, yv_none, og_n, List.replicate, Option.bind, heapFree, onlyReads, List.set, List.getD, List.getElem?_cons_succ, List.getElem?_cons_zero, Option.getD, Option.map, decide_true, decide_false, if_true, if_false, Bool.false_eq_true, Bool.not_true, Bool.not_false, beq_self_eq_true, Bool.true_and, Bool.and_true, Bool.and_self, Bool.false_and, Bool.and_false, Bool.true_or, Bool.or_true, Bool.false_or, Bool.or_false, Bool.or_self, List.length_cons, List.length_nil, List.cons_append, List.nil_append, ite_self, List.getElem?_toArray, Option.bind_some, Option.bind_none, og_tt, og_ff, og_tf, og_ft, Int.reduceBNe, Int.reduceBEq, Int.reduceLT, Int.reduceLE, hr, hn, fits_run x hx, hxw, numT, Int.toNat_natCast, List.getElem?_cons_succ, List.getElem?_cons_zero, show (((0 : Int) != 0) = false) from rfl]
end Go.Proofs.Ytlbkcdfllglddaa.fmt
