/- The functions below the Format laws, 2: the reference's numbers. Conditions: the bounds in each statement. -/
import Derived.Test.YtlbkcdfllglddaaF1
namespace Go.Proofs.Ytlbkcdfllglddaa.fmt
open Go Go.Ab
set_option maxRecDepth 100000
set_option linter.unusedSimpArgs false
set_option linter.unusedVariables false
attribute [local simp] ox ou ko ky kn kd oy_seq oy_ret oy_exit oy_skip oy_cond oy_block oy_region oy_draw dr_eq dre_some stl_some st_nil st_op ot ov os_same sy_nil sy_op nxt_normal nxt_ret nxt_exit blk_exit blk_normal blk_ret reg_some cnd_true cnd_false opr_some grd_true grd_false fin_ret fin_normal finv_some Region.wanted opA callV aop evalL evalO putE binA bi_add bi_sub bi_mul bi_eql bi_neq bi_lss bi_leq bi_gtr bi_geq unA ofVal ofLeaf resultsA tupA AV.rfL AV.rf yielded_yv yv_bool yv_undef yv_none og_n List.replicate Option.bind heapFree onlyReads
/-- a kind of numbers, a width and a scale -/
def numOk (kk w s : Int) : Bool := (decide (2 ≤ kk) && decide (kk ≤ 4)) && ((decide (1 ≤ w) && decide (w ≤ 32)) && (decide (0 ≤ s) && decide (s ≤ 3)))
theorem numOk_iff {kk w s : Int} : numOk kk w s = true ↔ 2 ≤ kk ∧ kk ≤ 4 ∧ 1 ≤ w ∧ w ≤ 32 ∧ 0 ≤ s ∧ s ≤ 3 := by simp [numOk, and_assoc]
def nLow (kk : Int) (w : Nat) : Int := if kk = 3 then 0 else -((2 ^ (w - 1) : Nat) : Int)
def nHigh (kk : Int) (w : Nat) : Int := if kk = 3 then ((2 ^ w : Nat) : Int) - 1 else ((2 ^ (w - 1) : Nat) : Int) - 1
/-- a number is in a field -/
def inF (kk : Int) (w s : Nat) (n : Int) : Bool := decide (n % ((2 ^ s : Nat) : Int) = 0) && (decide (nLow kk w ≤ n / ((2 ^ s : Nat) : Int)) && decide (n / ((2 ^ s : Nat) : Int) ≤ nHigh kk w))
theorem pw_bd {w n : Nat} (h : w ≤ n) : 1 ≤ 2 ^ w ∧ 2 ^ w ≤ 2 ^ n := ⟨Nat.two_pow_pos w, two_pow_le h⟩
theorem i64_bd {n : Nat} (h : n ≤ 4294967296) : (n : Int) ≤ 4294967296 := by omega

theorem number_run (kk w s : Int) (lo : Nat) (H : Heap) : callA Try.prog (om Try.prog) lo 30 [.int .u8 kk, .int .i64 w, .int .i64 s] H = some (.bool (numOk kk w s), H) := by
  rw [call_eq Try.func30 rfl rfl]
  simp -implicitDefEqProofs only [Try.f30]
  by_cases h : 2 ≤ kk ∧ kk ≤ 4
  · have e : numOk kk w s = ((decide (1 ≤ w) && decide (w ≤ 32)) && (decide (0 ≤ s) && decide (s ≤ 3))) := by simp [numOk, h.1, h.2]
    have i1 := fun H => in_run w 1 32 H.next H
    have i2 := fun H => in_run s 0 3 H.next H
    have hk : kk = 2 ∨ kk = 3 ∨ kk = 4 := by omega
    rw [e]
    generalize (decide (1 ≤ w) && decide (w ≤ 32)) = b1 at *
    generalize (decide (0 ≤ s) && decide (s ≤ 3)) = b2 at *
    have n3 : ((2 : Int) == 3) = false := rfl
    have n4 : ((2 : Int) == 4) = false := rfl
    rcases hk with rfl | rfl | rfl <;> cases b1 <;> simp -implicitDefEqProofs [i1, i2]
  · have e : numOk kk w s = false := by
      cases hn : numOk kk w s with
      | false => rfl
      | true => have := numOk_iff.1 hn; omega
    have h2 : (kk == 2) = false := by simp; omega
    have h3 : (kk == 3) = false := by simp; omega
    have h4 : (kk == 4) = false := by simp; omega
    rw [e]
    simp -implicitDefEqProofs only [ox, ou, ko, ky, kn, kd, oy_seq, oy_ret, oy_exit, oy_skip, oy_cond, oy_block, oy_region, oy_draw, dr_eq, dre_some, stl_some, st_nil, st_op, ot, ov, os_same, sy_nil, sy_op, nxt_normal, nxt_ret, nxt_exit, blk_exit, blk_normal, blk_ret, reg_some, cnd_true, cnd_false, opr_some, grd_true, grd_false, fin_ret, fin_normal, finv_some, Region.wanted, opA, callV, aop, evalL, evalO, putE, binA, bi_add, bi_sub, bi_mul, bi_eql, bi_neq, bi_lss, bi_leq, bi_gtr, bi_geq, unA, ofVal, ofLeaf, resultsA, tupA, AV.rfL, AV.rf, yielded_yv, yv_bool, yv_undef, yv_none, og_n, List.replicate, Option.bind, heapFree, onlyReads, List.set, List.getD, List.getElem?_cons_succ, List.getElem?_cons_zero, Option.getD, Option.map, decide_true, decide_false, if_true, if_false, Bool.false_eq_true, Bool.not_true, Bool.not_false, beq_self_eq_true, Bool.true_and, Bool.and_true, Bool.and_self, Bool.false_and, Bool.and_false, Bool.true_or, Bool.or_true, Bool.false_or, Bool.or_false, Bool.or_self, List.length_cons, List.length_nil, List.cons_append, List.nil_append, ite_self, List.getElem?_toArray, Option.bind_some, Option.bind_none, og_tt, og_ff, og_tf, og_ft, Int.reduceBNe, Int.reduceBEq, Int.reduceLT, Int.reduceLE, h2, h3, h4]
theorem ends_run (kk : Int) (w : Nat) (h1 : 1 ≤ w) (h2 : w ≤ 32) (lo : Nat) (H : Heap) : callA Try.prog (om Try.prog) lo 31 [.int .u8 kk, .int .i64 w] H = some (.tup [.int .i64 (nLow kk w), .int .i64 (nHigh kk w)], H) := by
  rw [call_eq Try.func31 rfl rfl]
  simp -implicitDefEqProofs only [Try.f31]
  have b1 := pw_bd h2
  have b2 := pw_bd (show w - 1 ≤ 32 by omega)
  have w1 : IntKind.i64.wrap ((w : Int) - 1) = ((w - 1 : Nat) : Int) := by rw [wi64 (by omega) (by omega)]; omega
  by_cases hk : kk = 3
  · subst hk
    have w2 : IntKind.i64.wrap (((2 ^ w : Nat) : Int) - 1) = ((2 ^ w : Nat) : Int) - 1 := wi64 (by omega) (by omega)
    simp -implicitDefEqProofs only [ox, ou, ko, ky, kn, kd, oy_seq, oy_ret, oy_exit, oy_skip, oy_cond, oy_block, oy_region, oy_draw, dr_eq, dre_some, stl_some, st_nil, st_op, ot, ov, os_same, sy_nil, sy_op, nxt_normal, nxt_ret, nxt_exit, blk_exit, blk_normal, blk_ret, reg_some, cnd_true, cnd_false, opr_some, grd_true, grd_false, fin_ret, fin_normal, finv_some, Region.wanted, opA, callV, aop, evalL, evalO, putE, binA, bi_add, bi_sub, bi_mul, bi_eql, bi_neq, bi_lss, bi_leq, bi_gtr, bi_geq, unA, ofVal, ofLeaf, resultsA, tupA, AV.rfL, AV.rf, yielded_yv, yv_bool, yv_undef, yv_none, og_n, List.replicate, Option.bind, heapFree, onlyReads, List.set, List.getD, List.getElem?_cons_succ, List.getElem?_cons_zero, Option.getD, Option.map, decide_true, decide_false, if_true, if_false, Bool.false_eq_true, Bool.not_true, Bool.not_false, beq_self_eq_true, Bool.true_and, Bool.and_true, Bool.and_self, Bool.false_and, Bool.and_false, Bool.true_or, Bool.or_true, Bool.false_or, Bool.or_false, Bool.or_self, List.length_cons, List.length_nil, List.cons_append, List.nil_append, ite_self, List.getElem?_toArray, Option.bind_some, Option.bind_none, og_tt, og_ff, og_tf, og_ft, Int.reduceBNe, Int.reduceBEq, Int.reduceLT, Int.reduceLE, power_run w (by omega), w2, nLow, nHigh]
  · have hk2 : (kk == 3) = false := by simp [hk]
    have w2 : IntKind.i64.wrap (((2 ^ (w - 1) : Nat) : Int) - 1) = ((2 ^ (w - 1) : Nat) : Int) - 1 := wi64 (by omega) (by omega)
    have w3 : IntKind.i64.wrap (0 - ((2 ^ (w - 1) : Nat) : Int)) = -((2 ^ (w - 1) : Nat) : Int) := by rw [wi64 (by omega) (by omega)]; omega
    simp -implicitDefEqProofs only [ox, ou, ko, ky, kn, kd, oy_seq, oy_ret, oy_exit, oy_skip, oy_cond, oy_block, oy_region, oy_draw, dr_eq, dre_some, stl_some, st_nil, st_op, ot, ov, os_same, sy_nil, sy_op, nxt_normal, nxt_ret, nxt_exit, blk_exit, blk_normal, blk_ret, reg_some, cnd_true, cnd_false, opr_some, grd_true, grd_false, fin_ret, fin_normal, finv_some, Region.wanted, opA, callV, aop, evalL, evalO, putE, binA, bi_add, bi_sub, bi_mul, bi_eql, bi_neq, bi_lss, bi_leq, bi_gtr, bi_geq, unA, ofVal, ofLeaf, resultsA, tupA, AV.rfL, AV.rf, yielded_yv, yv_bool, yv_undef, yv_none, og_n, List.replicate, Option.bind, heapFree, onlyReads, List.set, List.getD, List.getElem?_cons_succ, List.getElem?_cons_zero, Option.getD, Option.map, decide_true, decide_false, if_true, if_false, Bool.false_eq_true, Bool.not_true, Bool.not_false, beq_self_eq_true, Bool.true_and, Bool.and_true, Bool.and_self, Bool.false_and, Bool.and_false, Bool.true_or, Bool.or_true, Bool.false_or, Bool.or_false, Bool.or_self, List.length_cons, List.length_nil, List.cons_append, List.nil_append, ite_self, List.getElem?_toArray, Option.bind_some, Option.bind_none, og_tt, og_ff, og_tf, og_ft, Int.reduceBNe, Int.reduceBEq, Int.reduceLT, Int.reduceLE, hk2, w1, power_run (w - 1) (by omega), w2, w3, nLow, nHigh, hk]
theorem i64_ediv {n : Int} (hn : -9223372036854775808 ≤ n) (hn2 : n ≤ 9223372036854775807) {p : Int} (hp : 1 ≤ p) : -9223372036854775808 ≤ n / p ∧ n / p ≤ 9223372036854775807 := by
  constructor
  · rw [Int.le_ediv_iff_mul_le (by omega)]
    have : -9223372036854775808 * p ≤ -9223372036854775808 := by omega
    omega
  · by_cases h : 0 ≤ n
    · exact Int.le_trans (Int.ediv_le_self _ h) hn2
    · have := Int.ediv_neg_of_neg_of_pos (show n < 0 by omega) (show 0 < p by omega); omega
theorem inF_run (kk : Int) (w s : Nat) (n : Int) (h1 : 1 ≤ w) (h2 : w ≤ 32) (hs : s ≤ 3) (hn : -9223372036854775808 ≤ n) (hn2 : n ≤ 9223372036854775807) (lo : Nat) (H : Heap) :
    callA Try.prog (om Try.prog) lo 34 [.int .u8 kk, .int .i64 w, .int .i64 s, .int .i64 n] H = some (.bool (inF kk w s n), H) := by
  rw [call_eq Try.func34 rfl rfl]
  simp -implicitDefEqProofs only [Try.f34]
  have b := pw_bd hs
  have hp : ((2 ^ s : Nat) : Int) ≠ 0 := by omega
  have q1 : binIntA .rem .i64 n ((2 ^ s : Nat) : Int) = some (.int .i64 (n.tmod ((2 ^ s : Nat) : Int))) := bi_rem hp
  have q2 : binIntA .quo .i64 n ((2 ^ s : Nat) : Int) = some (.int .i64 (IntKind.i64.wrap (n.tdiv ((2 ^ s : Nat) : Int)))) := bi_quo hp
  by_cases hd : n % ((2 ^ s : Nat) : Int) = 0
  · have hdv := Int.dvd_of_emod_eq_zero hd
    have e1 : n.tmod ((2 ^ s : Nat) : Int) = 0 := Int.tmod_eq_zero_of_dvd hdv
    have e2 : n.tdiv ((2 ^ s : Nat) : Int) = n / ((2 ^ s : Nat) : Int) := Int.tdiv_eq_ediv_of_dvd hdv
    have b3 := i64_ediv hn hn2 (show (1 : Int) ≤ ((2 ^ s : Nat) : Int) by omega)
    simp -implicitDefEqProofs only [ox, ou, ko, ky, kn, kd, oy_seq, oy_ret, oy_exit, oy_skip, oy_cond, oy_block, oy_region, oy_draw, dr_eq, dre_some, stl_some, st_nil, st_op, ot, ov, os_same, sy_nil, sy_op, nxt_normal, nxt_ret, nxt_exit, blk_exit, blk_normal, blk_ret, reg_some, cnd_true, cnd_false, opr_some, grd_true, grd_false, fin_ret, fin_normal, finv_some, Region.wanted, opA, callV, aop, evalL, evalO, putE, binA, bi_add, bi_sub, bi_mul, bi_eql, bi_neq, bi_lss, bi_leq, bi_gtr, bi_geq, unA, ofVal, ofLeaf, resultsA, tupA, AV.rfL, AV.rf, yielded_yv, yv_bool, yv_undef, yv_none, og_n, List.replicate, Option.bind, heapFree, onlyReads, List.set, List.getD, List.getElem?_cons_succ, List.getElem?_cons_zero, Option.getD, Option.map, decide_true, decide_false, if_true, if_false, Bool.false_eq_true, Bool.not_true, Bool.not_false, beq_self_eq_true, Bool.true_and, Bool.and_true, Bool.and_self, Bool.false_and, Bool.and_false, Bool.true_or, Bool.or_true, Bool.false_or, Bool.or_false, Bool.or_self, List.length_cons, List.length_nil, List.cons_append, List.nil_append, ite_self, List.getElem?_toArray, Option.bind_some, Option.bind_none, og_tt, og_ff, og_tf, og_ft, Int.reduceBNe, Int.reduceBEq, Int.reduceLT, Int.reduceLE, ends_run kk w h1 h2, power_run s (by omega), q1, q2, e1, e2, wi64 b3.1 b3.2, in_run, inF, hd, List.getElem?_cons_succ, List.getElem?_cons_zero]
  · have e1 : (n.tmod ((2 ^ s : Nat) : Int) == 0) = false := by
      simp only [beq_eq_false_iff_ne, ne_eq]
      exact fun h => hd (Int.emod_eq_zero_of_dvd (Int.dvd_of_tmod_eq_zero h))
    simp -implicitDefEqProofs only [ox, ou, ko, ky, kn, kd, oy_seq, oy_ret, oy_exit, oy_skip, oy_cond, oy_block, oy_region, oy_draw, dr_eq, dre_some, stl_some, st_nil, st_op, ot, ov, os_same, sy_nil, sy_op, nxt_normal, nxt_ret, nxt_exit, blk_exit, blk_normal, blk_ret, reg_some, cnd_true, cnd_false, opr_some, grd_true, grd_false, fin_ret, fin_normal, finv_some, Region.wanted, opA, callV, aop, evalL, evalO, putE, binA, bi_add, bi_sub, bi_mul, bi_eql, bi_neq, bi_lss, bi_leq, bi_gtr, bi_geq, unA, ofVal, ofLeaf, resultsA, tupA, AV.rfL, AV.rf, yielded_yv, yv_bool, yv_undef, yv_none, og_n, List.replicate, Option.bind, heapFree, onlyReads, List.set, List.getD, List.getElem?_cons_succ, List.getElem?_cons_zero, Option.getD, Option.map, decide_true, decide_false, if_true, if_false, Bool.false_eq_true, Bool.not_true, Bool.not_false, beq_self_eq_true, Bool.true_and, Bool.and_true, Bool.and_self, Bool.false_and, Bool.and_false, Bool.true_or, Bool.or_true, Bool.false_or, Bool.or_false, Bool.or_self, List.length_cons, List.length_nil, List.cons_append, List.nil_append, ite_self, List.getElem?_toArray, Option.bind_some, Option.bind_none, og_tt, og_ff, og_tf, og_ft, Int.reduceBNe, Int.reduceBEq, Int.reduceLT, Int.reduceLE, ends_run kk w h1 h2, power_run s (by omega), q1, e1, in_run, inF, hd, List.getElem?_cons_succ, List.getElem?_cons_zero]
end Go.Proofs.Ytlbkcdfllglddaa.fmt
