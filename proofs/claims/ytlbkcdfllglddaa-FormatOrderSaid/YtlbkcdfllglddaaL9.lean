/- FormatOrder, the run: whatever numbers come in, the law returns true. Conditions: the numbers are of their kinds. -/
import Derived.Test.YtlbkcdfllglddaaL8
namespace Go.Proofs.Ytlbkcdfllglddaa.fmt
open Go Go.Ab
set_option maxRecDepth 100000
set_option linter.unusedSimpArgs false
set_option linter.unusedVariables false
attribute [local simp] ox ou ko ky kn kd oy_seq oy_ret oy_exit oy_skip oy_cond oy_block oy_region oy_draw dr_eq dre_some stl_some st_nil st_op ot ov os_same sy_nil sy_op nxt_normal nxt_ret nxt_exit blk_exit blk_normal blk_ret reg_some cnd_true cnd_false opr_some grd_true grd_false fin_ret fin_normal finv_some Region.wanted opA callV aop evalL evalO putE binA bi_add bi_sub bi_mul bi_eql bi_neq bi_lss bi_leq bi_gtr bi_geq unA ofVal ofLeaf resultsA tupA AV.rfL AV.rf yielded_yv yv_bool yv_undef yv_none og_n List.replicate Option.bind heapFree onlyReads
theorem fld_mul (kk : Int) (w s : Nat) (k : Int) (hn : numOk kk w s = true) (hl : nLow kk w ≤ k) (hh : k ≤ nHigh kk w) : fldT kk w s (pow s * k) = .tup [.int .u64 (k % pow w), .int .i64 0] := by
  have hp := pow_pos' s
  simp only [fldT, hn, if_true, Int.toNat_natCast, inF_mul, hl, hh, decide_true, Bool.and_self, Int.mul_ediv_cancel_left _ (show pow s ≠ 0 by omega)]
theorem eqb (a b : Bool) : eqA Try.prog 4 (.bool a) (.bool b) = some (a == b) := by
  simp -implicitDefEqProofs [eqA, Try.underlying4]
theorem btf : (true == false) = false := rfl
theorem bft : (false == true) = false := rfl
set_option maxHeartbeats 2000000 in
theorem law8 (kk w s n : Int) (hk0 : 0 ≤ kk) (hk : kk ≤ 255) (hn1 : -9223372036854775808 ≤ n) (hn2 : n ≤ 9223372036854775807) (lo : Nat) :
    callA Try.prog (om Try.prog) lo 8 [.int .u8 kk, .int .i64 w, .int .i64 s, .int .i64 n] Heap.empty = some (.bool true, Heap.empty) := by
  rw [call_eq Try.func8 rfl rfl]
  simp -implicitDefEqProofs only [Try.f8]
  have r12 := range_run kk w s hk0 hk
  have r14 := field_run kk w s n hk0 hk hn1 hn2
  cases hn : numOk kk w s with
  | false =>
    simp only [rngT, fldT, hn, Bool.false_eq_true, if_false] at r12 r14
    simp -implicitDefEqProofs only [ox, ou, ko, ky, kn, kd, oy_seq, oy_ret, oy_exit, oy_skip, oy_cond, oy_block, oy_region, oy_draw, dr_eq, dre_some, stl_some, st_nil, st_op, ot, ov, os_same, sy_nil, sy_op, nxt_normal, nxt_ret, nxt_exit, blk_exit, blk_normal, blk_ret, reg_some, cnd_true, cnd_false, opr_some, grd_true, grd_false, fin_ret, fin_normal, finv_some, Region.wanted, opA, callV, aop, evalL, evalO, putE, binA, bi_add, bi_sub, bi_mul, bi_eql, bi_neq, bi_lss, bi_leq, bi_gtr, bi_geq, unA, ofVal, ofLeaf, resultsA, tupA, AV.rfL, AV.rf, yielded_yv, yv_bool, yv_undef, yv_none, og_n, List.replicate, Option.bind, heapFree, onlyReads, List.set, List.getD, List.getElem?_cons_succ, List.getElem?_cons_zero, Option.getD, Option.map, decide_true, decide_false, if_true, if_false, Bool.false_eq_true, Bool.not_true, Bool.not_false, beq_self_eq_true, Bool.true_and, Bool.and_true, Bool.and_self, Bool.false_and, Bool.and_false, Bool.true_or, Bool.or_true, Bool.false_or, Bool.or_false, Bool.or_self, List.length_cons, List.length_nil, List.cons_append, List.nil_append, ite_self, List.getElem?_toArray, Option.bind_some, Option.bind_none, og_tt, og_ff, og_tf, og_ft, Int.reduceBNe, Int.reduceBEq, Int.reduceLT, Int.reduceLE, alive_run, r12, r14, List.getElem?_cons_succ, List.getElem?_cons_zero]
  | true =>
    obtain ⟨k1, k2, hw, hw2, hs, hs2⟩ := numOk_iff.1 hn
    obtain ⟨w, rfl⟩ := Int.eq_ofNat_of_zero_le (show 0 ≤ w by omega)
    obtain ⟨s, rfl⟩ := Int.eq_ofNat_of_zero_le hs
    have hw' : 1 ≤ w := by omega
    have be := ends_bd kk (show w ≤ 32 by omega)
    obtain ⟨ep, el, eh⟩ := ends_pow kk hw'
    have bw := pw_bd (show w ≤ 32 by omega)
    have bs := pw_bd (show s ≤ 3 by omega)
    have ps := pow_pos' s
    have ps8 : pow s ≤ 8 := by unfold pow; omega
    have pw32 : 2 ≤ pow w ∧ pow w ≤ 4294967296 := by
      have : (2 : Nat) ^ 1 ≤ 2 ^ w := two_pow_le hw'
      unfold pow; omega
    obtain ⟨lb1, lb2⟩ := pow_mul_bd (show s ≤ 3 by omega) (Int.le_refl (nLow kk w)) el el (Int.le_refl 0)
    obtain ⟨hb1, hb2⟩ := pow_mul_bd (show s ≤ 3 by omega) eh (Int.le_refl (nHigh kk w)) (Int.le_refl 0) eh
    simp only [rngT, hn, if_true, Int.toNat_natCast] at r12
    have rl := field_run kk w s (pow s * nLow kk w) hk0 hk (by omega) (by omega)
    have rh := field_run kk w s (pow s * nHigh kk w) hk0 hk (by omega) (by omega)
    rw [fld_mul kk w s _ hn (Int.le_refl _) (by omega)] at rl
    rw [fld_mul kk w s _ hn (by omega) (Int.le_refl _)] at rh
    have c1 : ¬ ((s : Int) < 0) := by omega
    have c2 : ¬ ((3 : Int) < (s : Int)) := by omega
    have c3 : ¬ ((w : Int) < 1) := by omega
    have c4 : ¬ ((32 : Int) < (w : Int)) := by omega
    have c5 : ¬ (0 < pow s * nLow kk w) := by omega
    have c6 : ¬ (pow s * nHigh kk w < 0) := by omega
    have u1 : IntKind.u64.wrap (s : Int) = (s : Int) := wrap_u64_lt (by omega)
    have u2 : IntKind.u64.wrap (w : Int) = (w : Int) := wrap_u64_lt (by omega)
    have t1 : shiftA .shl .i64 1 (s : Int) = some (.int .i64 (pow s)) := by
      have e : (1 : Int) * 2 ^ s = pow s := by simp [pow]
      rw [i64_shl (by omega) (by rw [e]; omega) (by rw [e]; omega), e]
    have t2 : shiftA .shl .i64 1 (w : Int) = some (.int .i64 (pow w)) := by
      have e : (1 : Int) * 2 ^ w = pow w := by simp [pow]
      rw [i64_shl (by omega) (by rw [e]; omega) (by rw [e]; omega), e]
    have t3 : IntKind.i64.wrap (pow w - 1) = pow w - 1 := wi64 (by omega) (by omega)
    have t4 : IntKind.i64.wrap (pow s * nHigh kk w - pow s * nLow kk w) = pow s * (pow w - 1) := by
      rw [wi64 (by omega) (by omega), ← Int.mul_sub, ep]
    have q1 : binIntA .quo .i64 (pow s * (pow w - 1)) (pow s) = some (.int .i64 (pow w - 1)) := by
      rw [bi_quo (by omega), Int.mul_tdiv_cancel_left _ (by omega), t3]
    have q2 : binIntA .rem .i64 n (pow s) = some (.int .i64 (n.tmod (pow s))) := bi_rem (by omega)
    have t5 : IntKind.i64.wrap (pow s * nHigh kk w - pow s) = pow s * nHigh kk w - pow s := wi64 (by omega) (by omega)
    have e0 : inF kk w s n = (decide (n % pow s = 0) && (decide (nLow kk w ≤ n / pow s) && decide (n / pow s ≤ nHigh kk w))) := rfl
    cases hf : inF kk w s n with
    | true =>
      obtain ⟨k, f1, f2, f3, f4⟩ := inF_split hf
      subst f1
      obtain ⟨x, x1, x2, x3⟩ := mod_num kk hw' f2 f3
      rw [fld_mul kk w s k hn f2 f3, x1] at r14
      have g1 : decide (pow s * nLow kk w ≤ pow s * k) = true := decide_eq_true (Int.mul_le_mul_of_nonneg_left f2 (by omega))
      have g2 : decide (pow s * k ≤ pow s * nHigh kk w) = true := decide_eq_true (Int.mul_le_mul_of_nonneg_left f3 (by omega))
      have g3 : (pow s * k).tmod (pow s) = 0 := Int.mul_tmod_right _ _
      by_cases hlast : k = nHigh kk w
      · have g4 : decide (pow s * nHigh kk w - pow s < pow s * k) = true := decide_eq_true (by rw [hlast]; omega)
        simp -implicitDefEqProofs only [eqb, btf, bft, ox, ou, ko, ky, kn, kd, oy_seq, oy_ret, oy_exit, oy_skip, oy_cond, oy_block, oy_region, oy_draw, dr_eq, dre_some, stl_some, st_nil, st_op, ot, ov, os_same, sy_nil, sy_op, nxt_normal, nxt_ret, nxt_exit, blk_exit, blk_normal, blk_ret, reg_some, cnd_true, cnd_false, opr_some, grd_true, grd_false, fin_ret, fin_normal, finv_some, Region.wanted, opA, callV, aop, evalL, evalO, putE, binA, bi_add, bi_sub, bi_mul, bi_eql, bi_neq, bi_lss, bi_leq, bi_gtr, bi_geq, unA, ofVal, ofLeaf, resultsA, tupA, AV.rfL, AV.rf, yielded_yv, yv_bool, yv_undef, yv_none, og_n, List.replicate, Option.bind, heapFree, onlyReads, List.set, List.getD, List.getElem?_cons_succ, List.getElem?_cons_zero, Option.getD, Option.map, decide_true, decide_false, if_true, if_false, Bool.false_eq_true, Bool.not_true, Bool.not_false, beq_self_eq_true, Bool.true_and, Bool.and_true, Bool.and_self, Bool.false_and, Bool.and_false, Bool.true_or, Bool.or_true, Bool.false_or, Bool.or_false, Bool.or_self, List.length_cons, List.length_nil, List.cons_append, List.nil_append, ite_self, List.getElem?_toArray, Option.bind_some, Option.bind_none, og_tt, og_ff, og_tf, og_ft, Int.reduceBNe, Int.reduceBEq, Int.reduceLT, Int.reduceLE, alive_run, r12, r14, rl, rh, c1, c2, c3, c4, c5, c6, u1, u2, t1, t2, t3, t4, t5, q1, q2, g1, g2, g3, g4, convertA, Try.underlying3, Try.underlying53, bne_self_eq_false, List.getElem?_cons_succ, List.getElem?_cons_zero]
      · have e6 : pow s * (k + 1) = pow s * k + pow s := by rw [Int.mul_add, Int.mul_one]
        have h6 := Int.mul_le_mul_of_nonneg_left (show k + 1 ≤ nHigh kk w by omega) (show 0 ≤ pow s by omega)
        have g4 : decide (pow s * nHigh kk w - pow s < pow s * k) = false := decide_eq_false (by omega)
        obtain ⟨y, y1, y2, y3⟩ := mod_num kk hw' (show nLow kk w ≤ k + 1 by omega) (show k + 1 ≤ nHigh kk w by omega)
        have t6 : IntKind.i64.wrap (pow s * k + pow s) = pow s * (k + 1) := by
          obtain ⟨b1, b2⟩ := pow_mul_bd (show s ≤ 3 by omega) f2 f3 el eh
          rw [wi64 (by omega) (by omega), e6]
        have rn := field_run kk w s (pow s * (k + 1)) hk0 hk (by
          obtain ⟨b1, b2⟩ := pow_mul_bd (show s ≤ 3 by omega) (show nLow kk w ≤ k + 1 by omega) (show k + 1 ≤ nHigh kk w by omega) el eh
          omega) (by
          obtain ⟨b1, b2⟩ := pow_mul_bd (show s ≤ 3 by omega) (show nLow kk w ≤ k + 1 by omega) (show k + 1 ≤ nHigh kk w by omega) el eh
          omega)
        rw [fld_mul kk w s _ hn (by omega) (by omega), y1] at rn
        have hxy : y = x + 1 ∨ (y = 0 ∧ x + 1 = 2 ^ w) := by
          have hx1 : (x : Int) + 1 ≤ pow w := by unfold pow; omega
          have : (k + 1) % pow w = ((x : Int) + 1) % pow w := by rw [← x1, Int.emod_add_emod]
          rw [y1] at this
          by_cases e : (x : Int) + 1 = pow w
          · right
            rw [e, Int.emod_self] at this
            exact ⟨by omega, by unfold pow at e; omega⟩
          · left
            rw [Int.emod_eq_of_lt (by omega) (by omega)] at this
            omega
        have t7 : IntKind.u64.wrap ((x : Int) + 1) = ((x + 1 : Nat) : Int) := by
          have := wrap_u64_lt (n := x + 1) (by omega)
          rw [← this]; rfl
        have t8 : shiftA .shl .u64 1 (w : Int) = some (.int .u64 ((2 ^ w : Nat) : Int)) := by
          have := u64_shl (a := 1) (y := w) (by omega)
          rw [show ((1 : Nat) : Int) = 1 from rfl, Nat.one_mul, Nat.mod_eq_of_lt (by omega)] at this
          exact this
        have t9 : IntKind.u64.wrap (((2 ^ w : Nat) : Int) - 1) = ((2 ^ w - 1 : Nat) : Int) := by
          have := wrap_u64_lt (n := 2 ^ w - 1) (by omega)
          rw [← this]; congr 1; omega
        rcases hxy with rfl | ⟨rfl, hx⟩
        · simp -implicitDefEqProofs only [eqb, btf, bft, ox, ou, ko, ky, kn, kd, oy_seq, oy_ret, oy_exit, oy_skip, oy_cond, oy_block, oy_region, oy_draw, dr_eq, dre_some, stl_some, st_nil, st_op, ot, ov, os_same, sy_nil, sy_op, nxt_normal, nxt_ret, nxt_exit, blk_exit, blk_normal, blk_ret, reg_some, cnd_true, cnd_false, opr_some, grd_true, grd_false, fin_ret, fin_normal, finv_some, Region.wanted, opA, callV, aop, evalL, evalO, putE, binA, bi_add, bi_sub, bi_mul, bi_eql, bi_neq, bi_lss, bi_leq, bi_gtr, bi_geq, unA, ofVal, ofLeaf, resultsA, tupA, AV.rfL, AV.rf, yielded_yv, yv_bool, yv_undef, yv_none, og_n, List.replicate, Option.bind, heapFree, onlyReads, List.set, List.getD, List.getElem?_cons_succ, List.getElem?_cons_zero, Option.getD, Option.map, decide_true, decide_false, if_true, if_false, Bool.false_eq_true, Bool.not_true, Bool.not_false, beq_self_eq_true, Bool.true_and, Bool.and_true, Bool.and_self, Bool.false_and, Bool.and_false, Bool.true_or, Bool.or_true, Bool.false_or, Bool.or_false, Bool.or_self, List.length_cons, List.length_nil, List.cons_append, List.nil_append, ite_self, List.getElem?_toArray, Option.bind_some, Option.bind_none, og_tt, og_ff, og_tf, og_ft, Int.reduceBNe, Int.reduceBEq, Int.reduceLT, Int.reduceLE, alive_run, r12, r14, rl, rh, rn, c1, c2, c3, c4, c5, c6, u1, u2, t1, t2, t3, t4, t5, t6, t7, q1, q2, g1, g2, g3, g4, convertA, Try.underlying3, Try.underlying53, bne_self_eq_false, List.getElem?_cons_succ, List.getElem?_cons_zero]
        · have g5 : ((0 : Int) == ((x + 1 : Nat) : Int)) = false := by
            simp only [beq_eq_false_iff_ne, ne_eq]; omega
          have g6 : ((x : Int) == ((2 ^ w - 1 : Nat) : Int)) = true := by
            simp only [beq_iff_eq]; omega
          simp -implicitDefEqProofs only [eqb, btf, bft, ox, ou, ko, ky, kn, kd, oy_seq, oy_ret, oy_exit, oy_skip, oy_cond, oy_block, oy_region, oy_draw, dr_eq, dre_some, stl_some, st_nil, st_op, ot, ov, os_same, sy_nil, sy_op, nxt_normal, nxt_ret, nxt_exit, blk_exit, blk_normal, blk_ret, reg_some, cnd_true, cnd_false, opr_some, grd_true, grd_false, fin_ret, fin_normal, finv_some, Region.wanted, opA, callV, aop, evalL, evalO, putE, binA, bi_add, bi_sub, bi_mul, bi_eql, bi_neq, bi_lss, bi_leq, bi_gtr, bi_geq, unA, ofVal, ofLeaf, resultsA, tupA, AV.rfL, AV.rf, yielded_yv, yv_bool, yv_undef, yv_none, og_n, List.replicate, Option.bind, heapFree, onlyReads, List.set, List.getD, List.getElem?_cons_succ, List.getElem?_cons_zero, Option.getD, Option.map, decide_true, decide_false, if_true, if_false, Bool.false_eq_true, Bool.not_true, Bool.not_false, beq_self_eq_true, Bool.true_and, Bool.and_true, Bool.and_self, Bool.false_and, Bool.and_false, Bool.true_or, Bool.or_true, Bool.false_or, Bool.or_false, Bool.or_self, List.length_cons, List.length_nil, List.cons_append, List.nil_append, ite_self, List.getElem?_toArray, Option.bind_some, Option.bind_none, og_tt, og_ff, og_tf, og_ft, Int.reduceBNe, Int.reduceBEq, Int.reduceLT, Int.reduceLE, alive_run, r12, r14, rl, rh, rn, c1, c2, c3, c4, c5, c6, u1, u2, t1, t2, t3, t4, t5, t6, t7, t8, t9, q1, q2, g1, g2, g3, g4, g5, g6, c0, convertA, Try.underlying3, Try.underlying53, bne_self_eq_false, List.getElem?_cons_succ, List.getElem?_cons_zero]
    | false =>
      have r14' := r14
      simp only [fldT, hn, hf, if_true, Bool.false_eq_true, if_false, Int.toNat_natCast] at r14
      by_cases g1 : pow s * nLow kk w ≤ n
      · by_cases g2 : n ≤ pow s * nHigh kk w
        · have g3 : (n.tmod (pow s) == 0) = false := by
            simp only [beq_eq_false_iff_ne, ne_eq]
            intro h
            have hd := Int.dvd_of_tmod_eq_zero h
            obtain ⟨k, rfl⟩ := hd
            rw [inF_mul] at hf
            have a1 : nLow kk w ≤ k := Int.le_of_mul_le_mul_left g1 (by omega)
            have a2 : k ≤ nHigh kk w := Int.le_of_mul_le_mul_left g2 (by omega)
            simp [a1, a2] at hf
          simp -implicitDefEqProofs only [eqb, btf, bft, ox, ou, ko, ky, kn, kd, oy_seq, oy_ret, oy_exit, oy_skip, oy_cond, oy_block, oy_region, oy_draw, dr_eq, dre_some, stl_some, st_nil, st_op, ot, ov, os_same, sy_nil, sy_op, nxt_normal, nxt_ret, nxt_exit, blk_exit, blk_normal, blk_ret, reg_some, cnd_true, cnd_false, opr_some, grd_true, grd_false, fin_ret, fin_normal, finv_some, Region.wanted, opA, callV, aop, evalL, evalO, putE, binA, bi_add, bi_sub, bi_mul, bi_eql, bi_neq, bi_lss, bi_leq, bi_gtr, bi_geq, unA, ofVal, ofLeaf, resultsA, tupA, AV.rfL, AV.rf, yielded_yv, yv_bool, yv_undef, yv_none, og_n, List.replicate, Option.bind, heapFree, onlyReads, List.set, List.getD, List.getElem?_cons_succ, List.getElem?_cons_zero, Option.getD, Option.map, decide_true, decide_false, if_true, if_false, Bool.false_eq_true, Bool.not_true, Bool.not_false, beq_self_eq_true, Bool.true_and, Bool.and_true, Bool.and_self, Bool.false_and, Bool.and_false, Bool.true_or, Bool.or_true, Bool.false_or, Bool.or_false, Bool.or_self, List.length_cons, List.length_nil, List.cons_append, List.nil_append, ite_self, List.getElem?_toArray, Option.bind_some, Option.bind_none, og_tt, og_ff, og_tf, og_ft, Int.reduceBNe, Int.reduceBEq, Int.reduceLT, Int.reduceLE, alive_run, r12, r14, rl, rh, c1, c2, c3, c4, c5, c6, u1, u2, t1, t2, t3, t4, t5, q1, q2, g1, g2, g3, convertA, Try.underlying3, Try.underlying53, bne_self_eq_false, List.getElem?_cons_succ, List.getElem?_cons_zero]
        · simp -implicitDefEqProofs only [eqb, btf, bft, ox, ou, ko, ky, kn, kd, oy_seq, oy_ret, oy_exit, oy_skip, oy_cond, oy_block, oy_region, oy_draw, dr_eq, dre_some, stl_some, st_nil, st_op, ot, ov, os_same, sy_nil, sy_op, nxt_normal, nxt_ret, nxt_exit, blk_exit, blk_normal, blk_ret, reg_some, cnd_true, cnd_false, opr_some, grd_true, grd_false, fin_ret, fin_normal, finv_some, Region.wanted, opA, callV, aop, evalL, evalO, putE, binA, bi_add, bi_sub, bi_mul, bi_eql, bi_neq, bi_lss, bi_leq, bi_gtr, bi_geq, unA, ofVal, ofLeaf, resultsA, tupA, AV.rfL, AV.rf, yielded_yv, yv_bool, yv_undef, yv_none, og_n, List.replicate, Option.bind, heapFree, onlyReads, List.set, List.getD, List.getElem?_cons_succ, List.getElem?_cons_zero, Option.getD, Option.map, decide_true, decide_false, if_true, if_false, Bool.false_eq_true, Bool.not_true, Bool.not_false, beq_self_eq_true, Bool.true_and, Bool.and_true, Bool.and_self, Bool.false_and, Bool.and_false, Bool.true_or, Bool.or_true, Bool.false_or, Bool.or_false, Bool.or_self, List.length_cons, List.length_nil, List.cons_append, List.nil_append, ite_self, List.getElem?_toArray, Option.bind_some, Option.bind_none, og_tt, og_ff, og_tf, og_ft, Int.reduceBNe, Int.reduceBEq, Int.reduceLT, Int.reduceLE, alive_run, r12, r14, rl, rh, c1, c2, c3, c4, c5, c6, u1, u2, t1, t2, t3, t4, t5, q1, q2, g1, g2, convertA, Try.underlying3, Try.underlying53, bne_self_eq_false, List.getElem?_cons_succ, List.getElem?_cons_zero]
      · simp -implicitDefEqProofs only [eqb, btf, bft, ox, ou, ko, ky, kn, kd, oy_seq, oy_ret, oy_exit, oy_skip, oy_cond, oy_block, oy_region, oy_draw, dr_eq, dre_some, stl_some, st_nil, st_op, ot, ov, os_same, sy_nil, sy_op, nxt_normal, nxt_ret, nxt_exit, blk_exit, blk_normal, blk_ret, reg_some, cnd_true, cnd_false, opr_some, grd_true, grd_false, fin_ret, fin_normal, finv_some, Region.wanted, opA, callV, aop, evalL, evalO, putE, binA, bi_add, bi_sub, bi_mul, bi_eql, bi_neq, bi_lss, bi_leq, bi_gtr, bi_geq, unA, ofVal, ofLeaf, resultsA, tupA, AV.rfL, AV.rf, yielded_yv, yv_bool, yv_undef, yv_none, og_n, List.replicate, Option.bind, heapFree, onlyReads, List.set, List.getD, List.getElem?_cons_succ, List.getElem?_cons_zero, Option.getD, Option.map, decide_true, decide_false, if_true, if_false, Bool.false_eq_true, Bool.not_true, Bool.not_false, beq_self_eq_true, Bool.true_and, Bool.and_true, Bool.and_self, Bool.false_and, Bool.and_false, Bool.true_or, Bool.or_true, Bool.false_or, Bool.or_false, Bool.or_self, List.length_cons, List.length_nil, List.cons_append, List.nil_append, ite_self, List.getElem?_toArray, Option.bind_some, Option.bind_none, og_tt, og_ff, og_tf, og_ft, Int.reduceBNe, Int.reduceBEq, Int.reduceLT, Int.reduceLE, alive_run, r12, r14, rl, rh, c1, c2, c3, c4, c5, c6, u1, u2, t1, t2, t3, t4, t5, q1, q2, g1, convertA, Try.underlying3, Try.underlying53, bne_self_eq_false, List.getElem?_cons_succ, List.getElem?_cons_zero]
end Go.Proofs.Ytlbkcdfllglddaa.fmt
