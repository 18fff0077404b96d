/- FormatBack, FormatFits, FormatOrder, the runs: whatever numbers come in, the laws return true. Conditions: the numbers are of their kinds. -/
import Derived.Test.YtlbkcdfllglddaaAlive
import Derived.Test.YtlbkcdfllglddaaL3
namespace Go.Proofs.Ytlbkcdfllglddaa.fmt
open Go Go.Ab
set_option maxRecDepth 100000
set_option linter.unusedSimpArgs false
set_option linter.unusedVariables false
attribute [local simp] ox ou ko ky kn kd oy_seq oy_ret oy_exit oy_skip oy_cond oy_block oy_region oy_draw dr_eq dre_some stl_some st_nil st_op ot ov os_same sy_nil sy_op nxt_normal nxt_ret nxt_exit blk_exit blk_normal blk_ret reg_some cnd_true cnd_false opr_some grd_true grd_false fin_ret fin_normal finv_some Region.wanted opA callV aop evalL evalO putE binA bi_add bi_sub bi_mul bi_eql bi_neq bi_lss bi_leq bi_gtr bi_geq unA ofVal ofLeaf resultsA tupA AV.rfL AV.rf yielded_yv yv_bool yv_undef yv_none og_n List.replicate Option.bind heapFree onlyReads
theorem pow_pos' (s : Nat) : 0 < pow s := by unfold pow; have := Nat.two_pow_pos s; omega
theorem ends_pow (kk : Int) {w : Nat} (h1 : 1 ≤ w) : nHigh kk w - nLow kk w = pow w - 1 ∧ nLow kk w ≤ 0 ∧ 0 ≤ nHigh kk w := by
  have e : (2 : Nat) ^ w = 2 * 2 ^ (w - 1) := by rw [← Nat.pow_succ']; congr 1; omega
  have := Nat.two_pow_pos (w - 1)
  unfold nHigh nLow pow
  split <;> omega
theorem numV_in (kk : Int) {w : Nat} (h1 : 1 ≤ w) {x : Nat} (hx : x < 2 ^ w) : nLow kk w ≤ numV kk w x ∧ numV kk w x ≤ nHigh kk w ∧ numV kk w x % pow w = x := by
  have e := ends_pow kk h1
  have hp : (x : Int) < pow w := by unfold pow; omega
  unfold numV
  split
  · refine ⟨by omega, by omega, ?_⟩
    rw [← Int.add_emod_right, show (x : Int) - pow w + pow w = x by omega]
    exact Int.emod_eq_of_lt (by omega) hp
  · exact ⟨by omega, by omega, Int.emod_eq_of_lt (by omega) hp⟩
theorem inF_mul (kk : Int) (w s : Nat) (k : Int) : inF kk w s (pow s * k) = (decide (nLow kk w ≤ k) && decide (k ≤ nHigh kk w)) := by
  have hp := pow_pos' s
  have e1 : pow s * k % pow s = 0 := Int.mul_emod_right _ _
  have e2 : pow s * k / pow s = k := Int.mul_ediv_cancel_left _ (by omega)
  have e0 : inF kk w s (pow s * k) = (decide (pow s * k % pow s = 0) && (decide (nLow kk w ≤ pow s * k / pow s) && decide (pow s * k / pow s ≤ nHigh kk w))) := rfl
  rw [e0, e1, e2]; simp
theorem inF_split {kk : Int} {w s : Nat} {n : Int} (h : inF kk w s n = true) : ∃ k, n = pow s * k ∧ nLow kk w ≤ k ∧ k ≤ nHigh kk w ∧ n / pow s = k := by
  have e0 : inF kk w s n = (decide (n % pow s = 0) && (decide (nLow kk w ≤ n / pow s) && decide (n / pow s ≤ nHigh kk w))) := rfl
  rw [e0] at h
  simp only [Bool.and_eq_true, decide_eq_true_eq] at h
  exact ⟨n / pow s, (Int.mul_ediv_cancel' (Int.dvd_of_emod_eq_zero h.1)).symm, h.2.1, h.2.2, rfl⟩
theorem mod_num (kk : Int) {w : Nat} (h1 : 1 ≤ w) {k : Int} (hl : nLow kk w ≤ k) (hh : k ≤ nHigh kk w) : ∃ x : Nat, k % pow w = x ∧ x < 2 ^ w ∧ numV kk w x = k := by
  have e := ends_pow kk h1
  by_cases hk : 0 ≤ k
  · obtain ⟨x, rfl⟩ := Int.eq_ofNat_of_zero_le hk
    have hp : (x : Int) < pow w := by omega
    refine ⟨x, Int.emod_eq_of_lt hk hp, by unfold pow at hp; omega, ?_⟩
    unfold numV; rw [if_neg (by omega)]
  · obtain ⟨x, hx⟩ := Int.eq_ofNat_of_zero_le (show 0 ≤ k + pow w by omega)
    have hp : (x : Int) < pow w := by omega
    refine ⟨x, ?_, by unfold pow at hp; omega, ?_⟩
    · rw [← Int.add_emod_right, hx]; exact Int.emod_eq_of_lt (by omega) hp
    · unfold numV; rw [if_pos (by omega)]; omega
theorem pow_mul_bd {s : Nat} (hs : s ≤ 3) {k a b : Int} (ha : a ≤ k) (hb : k ≤ b) (ha0 : a ≤ 0) (hb0 : 0 ≤ b) : 8 * a ≤ pow s * k ∧ pow s * k ≤ 8 * b := by
  have hs3 : s = 0 ∨ s = 1 ∨ s = 2 ∨ s = 3 := by omega
  rcases hs3 with rfl | rfl | rfl | rfl <;> simp only [pow] <;> omega

theorem law11 (kk w s n : Int) (x : Nat) (hk0 : 0 ≤ kk) (hk : kk ≤ 255) (hn1 : -9223372036854775808 ≤ n) (hn2 : n ≤ 9223372036854775807) (hx : x < 2 ^ 64) (lo : Nat) :
    callA Try.prog (om Try.prog) lo 11 [.int .u8 kk, .int .i64 w, .int .i64 s, .int .i64 n, .int .u64 x] Heap.empty = some (.bool true, Heap.empty) := by
  rw [call_eq Try.func11 rfl rfl]
  simp -implicitDefEqProofs only [Try.f11]
  have r14 := field_run kk w s n hk0 hk hn1 hn2
  have r16 := prgNumber_run kk w s x hx hk0 hk
  cases hn : numOk kk w s with
  | false =>
    simp only [fldT, numT, hn, Bool.false_eq_true, if_false] at r14 r16
    simp -implicitDefEqProofs only [ox, ou, ko, ky, kn, kd, oy_seq, oy_ret, oy_exit, oy_skip, oy_cond, oy_block, oy_region, oy_draw, dr_eq, dre_some, stl_some, st_nil, st_op, ot, ov, os_same, sy_nil, sy_op, nxt_normal, nxt_ret, nxt_exit, blk_exit, blk_normal, blk_ret, reg_some, cnd_true, cnd_false, opr_some, grd_true, grd_false, fin_ret, fin_normal, finv_some, Region.wanted, opA, callV, aop, evalL, evalO, putE, binA, bi_add, bi_sub, bi_mul, bi_eql, bi_neq, bi_lss, bi_leq, bi_gtr, bi_geq, unA, ofVal, ofLeaf, resultsA, tupA, AV.rfL, AV.rf, yielded_yv, yv_bool, yv_undef, yv_none, og_n, List.replicate, Option.bind, heapFree, onlyReads, List.set, List.getD, List.getElem?_cons_succ, List.getElem?_cons_zero, Option.getD, Option.map, decide_true, decide_false, if_true, if_false, Bool.false_eq_true, Bool.not_true, Bool.not_false, beq_self_eq_true, Bool.true_and, Bool.and_true, Bool.and_self, Bool.false_and, Bool.and_false, Bool.true_or, Bool.or_true, Bool.false_or, Bool.or_false, Bool.or_self, List.length_cons, List.length_nil, List.cons_append, List.nil_append, ite_self, List.getElem?_toArray, Option.bind_some, Option.bind_none, og_tt, og_ff, og_tf, og_ft, Int.reduceBNe, Int.reduceBEq, Int.reduceLT, Int.reduceLE, alive_run, r14, r16, List.getElem?_cons_succ, List.getElem?_cons_zero]
  | true =>
    obtain ⟨k1, k2, hw, hw2, hs, hs2⟩ := numOk_iff.1 hn
    obtain ⟨w, rfl⟩ := Int.eq_ofNat_of_zero_le (show 0 ≤ w by omega)
    obtain ⟨s, rfl⟩ := Int.eq_ofNat_of_zero_le hs
    have hw' : 1 ≤ w := by omega
    have be := ends_bd kk (show w ≤ 32 by omega)
    simp only [fldT, numT, hn, if_true, Int.toNat_natCast] at r14 r16
    -- back from the field of the number
    have hb : x < 2 ^ w → ∀ lo, callA Try.prog (om Try.prog) lo 14 [.int .u8 kk, .int .i64 w, .int .i64 s, .int .i64 (pow s * numV kk w x)] Heap.empty = some (.tup [.int .u64 x, .int .i64 0], Heap.empty) := by
      intro hxw lo
      obtain ⟨a, b, c⟩ := numV_in kk hw' hxw
      obtain ⟨p, q⟩ := pow_mul_bd (show s ≤ 3 by omega) a b be.2.1 be.2.2.1
      rw [field_run kk w s _ hk0 hk (by omega) (by omega)]
      have hp := pow_pos' s
      simp only [fldT, hn, if_true, Int.toNat_natCast, inF_mul, a, b, decide_true, Bool.and_self, Int.mul_ediv_cancel_left _ (show pow s ≠ 0 by omega), c]
    cases hf : inF kk w s n with
    | false =>
      simp only [hf, Bool.false_eq_true, if_false] at r14
      by_cases hxw : x < 2 ^ w
      · simp only [hxw, decide_true, if_true] at r16
        simp -implicitDefEqProofs only [ox, ou, ko, ky, kn, kd, oy_seq, oy_ret, oy_exit, oy_skip, oy_cond, oy_block, oy_region, oy_draw, dr_eq, dre_some, stl_some, st_nil, st_op, ot, ov, os_same, sy_nil, sy_op, nxt_normal, nxt_ret, nxt_exit, blk_exit, blk_normal, blk_ret, reg_some, cnd_true, cnd_false, opr_some, grd_true, grd_false, fin_ret, fin_normal, finv_some, Region.wanted, opA, callV, aop, evalL, evalO, putE, binA, bi_add, bi_sub, bi_mul, bi_eql, bi_neq, bi_lss, bi_leq, bi_gtr, bi_geq, unA, ofVal, ofLeaf, resultsA, tupA, AV.rfL, AV.rf, yielded_yv, yv_bool, yv_undef, yv_none, og_n, List.replicate, Option.bind, heapFree, onlyReads, List.set, List.getD, List.getElem?_cons_succ, List.getElem?_cons_zero, Option.getD, Option.map, decide_true, decide_false, if_true, if_false, Bool.false_eq_true, Bool.not_true, Bool.not_false, beq_self_eq_true, Bool.true_and, Bool.and_true, Bool.and_self, Bool.false_and, Bool.and_false, Bool.true_or, Bool.or_true, Bool.false_or, Bool.or_false, Bool.or_self, List.length_cons, List.length_nil, List.cons_append, List.nil_append, ite_self, List.getElem?_toArray, Option.bind_some, Option.bind_none, og_tt, og_ff, og_tf, og_ft, Int.reduceBNe, Int.reduceBEq, Int.reduceLT, Int.reduceLE, alive_run, r14, r16, hb hxw, List.getElem?_cons_succ, List.getElem?_cons_zero]
      · simp only [hxw, decide_false, Bool.false_eq_true, if_false] at r16
        simp -implicitDefEqProofs only [ox, ou, ko, ky, kn, kd, oy_seq, oy_ret, oy_exit, oy_skip, oy_cond, oy_block, oy_region, oy_draw, dr_eq, dre_some, stl_some, st_nil, st_op, ot, ov, os_same, sy_nil, sy_op, nxt_normal, nxt_ret, nxt_exit, blk_exit, blk_normal, blk_ret, reg_some, cnd_true, cnd_false, opr_some, grd_true, grd_false, fin_ret, fin_normal, finv_some, Region.wanted, opA, callV, aop, evalL, evalO, putE, binA, bi_add, bi_sub, bi_mul, bi_eql, bi_neq, bi_lss, bi_leq, bi_gtr, bi_geq, unA, ofVal, ofLeaf, resultsA, tupA, AV.rfL, AV.rf, yielded_yv, yv_bool, yv_undef, yv_none, og_n, List.replicate, Option.bind, heapFree, onlyReads, List.set, List.getD, List.getElem?_cons_succ, List.getElem?_cons_zero, Option.getD, Option.map, decide_true, decide_false, if_true, if_false, Bool.false_eq_true, Bool.not_true, Bool.not_false, beq_self_eq_true, Bool.true_and, Bool.and_true, Bool.and_self, Bool.false_and, Bool.and_false, Bool.true_or, Bool.or_true, Bool.false_or, Bool.or_false, Bool.or_self, List.length_cons, List.length_nil, List.cons_append, List.nil_append, ite_self, List.getElem?_toArray, Option.bind_some, Option.bind_none, og_tt, og_ff, og_tf, og_ft, Int.reduceBNe, Int.reduceBEq, Int.reduceLT, Int.reduceLE, alive_run, r14, r16, List.getElem?_cons_succ, List.getElem?_cons_zero]
    | true =>
      obtain ⟨k, e1, e2, e3, e4⟩ := inF_split hf
      obtain ⟨y, y1, y2, y3⟩ := mod_num kk hw' e2 e3
      have hy : y < 2 ^ 64 := Nat.lt_of_lt_of_le y2 (two_pow_le (by omega))
      have r16b := prgNumber_run kk w s y hy hk0 hk
      simp only [numT, hn, if_true, Int.toNat_natCast, y2, decide_true, y3, ← e1] at r16b
      simp only [hf, if_true, e4, y1] at r14
      by_cases hxw : x < 2 ^ w
      · simp only [hxw, decide_true, if_true] at r16
        simp -implicitDefEqProofs only [ox, ou, ko, ky, kn, kd, oy_seq, oy_ret, oy_exit, oy_skip, oy_cond, oy_block, oy_region, oy_draw, dr_eq, dre_some, stl_some, st_nil, st_op, ot, ov, os_same, sy_nil, sy_op, nxt_normal, nxt_ret, nxt_exit, blk_exit, blk_normal, blk_ret, reg_some, cnd_true, cnd_false, opr_some, grd_true, grd_false, fin_ret, fin_normal, finv_some, Region.wanted, opA, callV, aop, evalL, evalO, putE, binA, bi_add, bi_sub, bi_mul, bi_eql, bi_neq, bi_lss, bi_leq, bi_gtr, bi_geq, unA, ofVal, ofLeaf, resultsA, tupA, AV.rfL, AV.rf, yielded_yv, yv_bool, yv_undef, yv_none, og_n, List.replicate, Option.bind, heapFree, onlyReads, List.set, List.getD, List.getElem?_cons_succ, List.getElem?_cons_zero, Option.getD, Option.map, decide_true, decide_false, if_true, if_false, Bool.false_eq_true, Bool.not_true, Bool.not_false, beq_self_eq_true, Bool.true_and, Bool.and_true, Bool.and_self, Bool.false_and, Bool.and_false, Bool.true_or, Bool.or_true, Bool.false_or, Bool.or_false, Bool.or_self, List.length_cons, List.length_nil, List.cons_append, List.nil_append, ite_self, List.getElem?_toArray, Option.bind_some, Option.bind_none, og_tt, og_ff, og_tf, og_ft, Int.reduceBNe, Int.reduceBEq, Int.reduceLT, Int.reduceLE, alive_run, r14, r16, r16b, hb hxw, List.getElem?_cons_succ, List.getElem?_cons_zero, bne_self_eq_false]
      · simp only [hxw, decide_false, Bool.false_eq_true, if_false] at r16
        simp -implicitDefEqProofs only [ox, ou, ko, ky, kn, kd, oy_seq, oy_ret, oy_exit, oy_skip, oy_cond, oy_block, oy_region, oy_draw, dr_eq, dre_some, stl_some, st_nil, st_op, ot, ov, os_same, sy_nil, sy_op, nxt_normal, nxt_ret, nxt_exit, blk_exit, blk_normal, blk_ret, reg_some, cnd_true, cnd_false, opr_some, grd_true, grd_false, fin_ret, fin_normal, finv_some, Region.wanted, opA, callV, aop, evalL, evalO, putE, binA, bi_add, bi_sub, bi_mul, bi_eql, bi_neq, bi_lss, bi_leq, bi_gtr, bi_geq, unA, ofVal, ofLeaf, resultsA, tupA, AV.rfL, AV.rf, yielded_yv, yv_bool, yv_undef, yv_none, og_n, List.replicate, Option.bind, heapFree, onlyReads, List.set, List.getD, List.getElem?_cons_succ, List.getElem?_cons_zero, Option.getD, Option.map, decide_true, decide_false, if_true, if_false, Bool.false_eq_true, Bool.not_true, Bool.not_false, beq_self_eq_true, Bool.true_and, Bool.and_true, Bool.and_self, Bool.false_and, Bool.and_false, Bool.true_or, Bool.or_true, Bool.false_or, Bool.or_false, Bool.or_self, List.length_cons, List.length_nil, List.cons_append, List.nil_append, ite_self, List.getElem?_toArray, Option.bind_some, Option.bind_none, og_tt, og_ff, og_tf, og_ft, Int.reduceBNe, Int.reduceBEq, Int.reduceLT, Int.reduceLE, alive_run, r14, r16, r16b, List.getElem?_cons_succ, List.getElem?_cons_zero, bne_self_eq_false]
theorem eq4 (a b : Bool) : binA Try.prog .eql 4 (.bool a) (.bool b) = some (.bool (a == b)) := by
  simp -implicitDefEqProofs [binA, eqA, Try.underlying4]
theorem ne4 (a b : Bool) : binA Try.prog .neq 4 (.bool a) (.bool b) = some (.bool (!(a == b))) := by
  simp -implicitDefEqProofs [binA, eqA, Try.underlying4]
theorem law9 (kk s n w : Int) (hk0 : 0 ≤ kk) (hk : kk ≤ 255) (hn1 : -9223372036854775808 ≤ n) (hn2 : n ≤ 9223372036854775807) (lo : Nat) :
    callA Try.prog (om Try.prog) lo 9 [.int .u8 kk, .int .i64 s, .int .i64 n, .int .i64 w] Heap.empty = some (.bool true, Heap.empty) := by
  rw [call_eq Try.func9 rfl rfl]
  simp -implicitDefEqProofs only [Try.f9]
  have r18 := fit_run kk s n hk0 hk hn1 hn2
  have r14 := field_run kk w s n hk0 hk hn1 hn2
  have hno : numOk kk w s = (numOk kk 1 s && (decide (1 ≤ w) && decide (w ≤ 32))) := by
    simp only [numOk]
    by_cases a : 2 ≤ kk <;> by_cases b : kk ≤ 4 <;> by_cases c : 1 ≤ w <;> by_cases d : w ≤ 32 <;> simp [a, b, c, d]
  cases hn : numOk kk 1 s with
  | false =>
    rw [hn, Bool.false_and] at hno
    simp only [fldT, fitT, hn, hno, Bool.false_eq_true, if_false] at r14 r18
    simp -implicitDefEqProofs only [ox, ou, ko, ky, kn, kd, oy_seq, oy_ret, oy_exit, oy_skip, oy_cond, oy_block, oy_region, oy_draw, dr_eq, dre_some, stl_some, st_nil, st_op, ot, ov, os_same, sy_nil, sy_op, nxt_normal, nxt_ret, nxt_exit, blk_exit, blk_normal, blk_ret, reg_some, cnd_true, cnd_false, opr_some, grd_true, grd_false, fin_ret, fin_normal, finv_some, Region.wanted, opA, callV, aop, evalL, evalO, putE, binA, bi_add, bi_sub, bi_mul, bi_eql, bi_neq, bi_lss, bi_leq, bi_gtr, bi_geq, unA, ofVal, ofLeaf, resultsA, tupA, AV.rfL, AV.rf, yielded_yv, yv_bool, yv_undef, yv_none, og_n, List.replicate, Option.bind, heapFree, onlyReads, List.set, List.getD, List.getElem?_cons_succ, List.getElem?_cons_zero, Option.getD, Option.map, decide_true, decide_false, if_true, if_false, Bool.false_eq_true, Bool.not_true, Bool.not_false, beq_self_eq_true, Bool.true_and, Bool.and_true, Bool.and_self, Bool.false_and, Bool.and_false, Bool.true_or, Bool.or_true, Bool.false_or, Bool.or_false, Bool.or_self, List.length_cons, List.length_nil, List.cons_append, List.nil_append, ite_self, List.getElem?_toArray, Option.bind_some, Option.bind_none, og_tt, og_ff, og_tf, og_ft, Int.reduceBNe, Int.reduceBEq, Int.reduceLT, Int.reduceLE, alive_run, r14, r18, List.getElem?_cons_succ, List.getElem?_cons_zero]
  | true =>
    rw [hn, Bool.true_and] at hno
    obtain ⟨k1, k2, _, _, hs, hs2⟩ := numOk_iff.1 hn
    obtain ⟨s, rfl⟩ := Int.eq_ofNat_of_zero_le hs
    simp only [fitT, hn, if_true, Int.toNat_natCast, fitFrom_eq] at r18
    -- the field of a width in range, by the least width
    have key : ∀ u : Nat, 1 ≤ u → u ≤ 32 → inF kk u s n = (inF kk 32 s n && decide (fitV kk (n / pow s) ≤ u)) := by
      intro u h1 h2
      rw [inF_fit h1, inF_fit (by decide)]
      by_cases a : n % pow s = 0 <;> by_cases c : fitV kk (n / pow s) ≤ u <;> simp [a, c]
      · omega
    have hp := fitV_pos kk (n / pow s)
    cases hf : inF kk 32 s n with
    | false =>
      simp only [hf, Bool.false_eq_true, if_false] at r18
      have hfe : ∃ e : Int, (e != 0) = true ∧ fldT kk w s n = .tup [.int .u64 0, .int .i64 e] := by
        cases hb : (decide (1 ≤ w) && decide (w ≤ 32)) with
        | false => exact ⟨2, rfl, by simp only [fldT, hno, hb, Bool.false_eq_true, if_false]⟩
        | true =>
          have hb' := hb
          simp only [Bool.and_eq_true, decide_eq_true_eq] at hb'
          refine ⟨24, rfl, ?_⟩
          simp only [fldT, hno, hb, if_true, Int.toNat_natCast, key w.toNat (by omega) (by omega), hf, Bool.false_and, Bool.false_eq_true, if_false]
      obtain ⟨e, e1, e2⟩ := hfe
      rw [e2] at r14
      simp -implicitDefEqProofs only [ox, ou, ko, ky, kn, kd, oy_seq, oy_ret, oy_exit, oy_skip, oy_cond, oy_block, oy_region, oy_draw, dr_eq, dre_some, stl_some, st_nil, st_op, ot, ov, os_same, sy_nil, sy_op, nxt_normal, nxt_ret, nxt_exit, blk_exit, blk_normal, blk_ret, reg_some, cnd_true, cnd_false, opr_some, grd_true, grd_false, fin_ret, fin_normal, finv_some, Region.wanted, opA, callV, aop, evalL, evalO, putE, binA, bi_add, bi_sub, bi_mul, bi_eql, bi_neq, bi_lss, bi_leq, bi_gtr, bi_geq, unA, ofVal, ofLeaf, resultsA, tupA, AV.rfL, AV.rf, yielded_yv, yv_bool, yv_undef, yv_none, og_n, List.replicate, Option.bind, heapFree, onlyReads, List.set, List.getD, List.getElem?_cons_succ, List.getElem?_cons_zero, Option.getD, Option.map, decide_true, decide_false, if_true, if_false, Bool.false_eq_true, Bool.not_true, Bool.not_false, beq_self_eq_true, Bool.true_and, Bool.and_true, Bool.and_self, Bool.false_and, Bool.and_false, Bool.true_or, Bool.or_true, Bool.false_or, Bool.or_false, Bool.or_self, List.length_cons, List.length_nil, List.cons_append, List.nil_append, ite_self, List.getElem?_toArray, Option.bind_some, Option.bind_none, og_tt, og_ff, og_tf, og_ft, Int.reduceBNe, Int.reduceBEq, Int.reduceLT, Int.reduceLE, alive_run, r14, r18, e1, List.getElem?_cons_succ, List.getElem?_cons_zero]
    | true =>
      simp only [hf, if_true] at r18
      obtain ⟨v, hv⟩ : ∃ v, v = fitV kk (n / pow s) := ⟨_, rfl⟩
      rw [← hv] at r18 key hp
      have hv32 : v ≤ 32 := by
        have := hf
        rw [inF_fit (by decide), ← hv] at this
        simp only [Bool.and_eq_true, decide_eq_true_eq] at this
        exact this.2.2
      have r14v := field_run kk v s n hk0 hk hn1 hn2
      have hnv : numOk kk v s = true := numOk_iff.2 ⟨k1, k2, by omega, by omega, hs, hs2⟩
      simp only [fldT, hnv, if_true, Int.toNat_natCast, key v hp hv32, hf, Nat.le_refl, decide_true, Bool.and_self] at r14v
      have c1 : ¬ ((v : Int) < 1) := by omega
      have c2 : ¬ ((32 : Int) < v) := by omega
      by_cases d1 : w < 1
      · obtain ⟨a, e, e2⟩ := fldT_tup kk w s n
        rw [e2] at r14
        simp -implicitDefEqProofs only [ox, ou, ko, ky, kn, kd, oy_seq, oy_ret, oy_exit, oy_skip, oy_cond, oy_block, oy_region, oy_draw, dr_eq, dre_some, stl_some, st_nil, st_op, ot, ov, os_same, sy_nil, sy_op, nxt_normal, nxt_ret, nxt_exit, blk_exit, blk_normal, blk_ret, reg_some, cnd_true, cnd_false, opr_some, grd_true, grd_false, fin_ret, fin_normal, finv_some, Region.wanted, opA, callV, aop, evalL, evalO, putE, binA, bi_add, bi_sub, bi_mul, bi_eql, bi_neq, bi_lss, bi_leq, bi_gtr, bi_geq, unA, ofVal, ofLeaf, resultsA, tupA, AV.rfL, AV.rf, yielded_yv, yv_bool, yv_undef, yv_none, og_n, List.replicate, Option.bind, heapFree, onlyReads, List.set, List.getD, List.getElem?_cons_succ, List.getElem?_cons_zero, Option.getD, Option.map, decide_true, decide_false, if_true, if_false, Bool.false_eq_true, Bool.not_true, Bool.not_false, beq_self_eq_true, Bool.true_and, Bool.and_true, Bool.and_self, Bool.false_and, Bool.and_false, Bool.true_or, Bool.or_true, Bool.false_or, Bool.or_false, Bool.or_self, List.length_cons, List.length_nil, List.cons_append, List.nil_append, ite_self, List.getElem?_toArray, Option.bind_some, Option.bind_none, og_tt, og_ff, og_tf, og_ft, Int.reduceBNe, Int.reduceBEq, Int.reduceLT, Int.reduceLE, alive_run, r14, r18, r14v, c1, c2, d1, List.getElem?_cons_succ, List.getElem?_cons_zero]
      · by_cases d2 : 32 < w
        · obtain ⟨a, e, e2⟩ := fldT_tup kk w s n
          rw [e2] at r14
          simp -implicitDefEqProofs only [ox, ou, ko, ky, kn, kd, oy_seq, oy_ret, oy_exit, oy_skip, oy_cond, oy_block, oy_region, oy_draw, dr_eq, dre_some, stl_some, st_nil, st_op, ot, ov, os_same, sy_nil, sy_op, nxt_normal, nxt_ret, nxt_exit, blk_exit, blk_normal, blk_ret, reg_some, cnd_true, cnd_false, opr_some, grd_true, grd_false, fin_ret, fin_normal, finv_some, Region.wanted, opA, callV, aop, evalL, evalO, putE, binA, bi_add, bi_sub, bi_mul, bi_eql, bi_neq, bi_lss, bi_leq, bi_gtr, bi_geq, unA, ofVal, ofLeaf, resultsA, tupA, AV.rfL, AV.rf, yielded_yv, yv_bool, yv_undef, yv_none, og_n, List.replicate, Option.bind, heapFree, onlyReads, List.set, List.getD, List.getElem?_cons_succ, List.getElem?_cons_zero, Option.getD, Option.map, decide_true, decide_false, if_true, if_false, Bool.false_eq_true, Bool.not_true, Bool.not_false, beq_self_eq_true, Bool.true_and, Bool.and_true, Bool.and_self, Bool.false_and, Bool.and_false, Bool.true_or, Bool.or_true, Bool.false_or, Bool.or_false, Bool.or_self, List.length_cons, List.length_nil, List.cons_append, List.nil_append, ite_self, List.getElem?_toArray, Option.bind_some, Option.bind_none, og_tt, og_ff, og_tf, og_ft, Int.reduceBNe, Int.reduceBEq, Int.reduceLT, Int.reduceLE, alive_run, r14, r18, r14v, c1, c2, d1, d2, List.getElem?_cons_succ, List.getElem?_cons_zero]
        · obtain ⟨w, rfl⟩ := Int.eq_ofNat_of_zero_le (show 0 ≤ w by omega)
          have hno' : numOk kk w s = true := numOk_iff.2 ⟨k1, k2, by omega, by omega, hs, hs2⟩
          by_cases hvw : v ≤ w
          · have g : decide ((v : Int) ≤ (w : Int)) = true := by simp; omega
            simp only [fldT, hno', if_true, Int.toNat_natCast, key w (by omega) (by omega), hf, hvw, decide_true, Bool.and_self] at r14
            have e5 : binA Try.prog .eql 4 (.bool true) (.bool true) = some (.bool true) := eq4 true true
            simp -implicitDefEqProofs only [eq4, ox, ou, ko, ky, kn, kd, oy_seq, oy_ret, oy_exit, oy_skip, oy_cond, oy_block, oy_region, oy_draw, dr_eq, dre_some, stl_some, st_nil, st_op, ot, ov, os_same, sy_nil, sy_op, nxt_normal, nxt_ret, nxt_exit, blk_exit, blk_normal, blk_ret, reg_some, cnd_true, cnd_false, opr_some, grd_true, grd_false, fin_ret, fin_normal, finv_some, Region.wanted, opA, callV, aop, evalL, evalO, putE, binA, bi_add, bi_sub, bi_mul, bi_eql, bi_neq, bi_lss, bi_leq, bi_gtr, bi_geq, unA, ofVal, ofLeaf, resultsA, tupA, AV.rfL, AV.rf, yielded_yv, yv_bool, yv_undef, yv_none, og_n, List.replicate, Option.bind, heapFree, onlyReads, List.set, List.getD, List.getElem?_cons_succ, List.getElem?_cons_zero, Option.getD, Option.map, decide_true, decide_false, if_true, if_false, Bool.false_eq_true, Bool.not_true, Bool.not_false, beq_self_eq_true, Bool.true_and, Bool.and_true, Bool.and_self, Bool.false_and, Bool.and_false, Bool.true_or, Bool.or_true, Bool.false_or, Bool.or_false, Bool.or_self, List.length_cons, List.length_nil, List.cons_append, List.nil_append, ite_self, List.getElem?_toArray, Option.bind_some, Option.bind_none, og_tt, og_ff, og_tf, og_ft, Int.reduceBNe, Int.reduceBEq, Int.reduceLT, Int.reduceLE, alive_run, r14, r18, r14v, c1, c2, d1, d2, g, eqA, Try.underlying4, Option.map, List.getElem?_cons_succ, List.getElem?_cons_zero]
          · have g : decide ((v : Int) ≤ (w : Int)) = false := by simp; omega
            simp only [fldT, hno', if_true, Int.toNat_natCast, key w (by omega) (by omega), hf, hvw, decide_false, Bool.and_false, Bool.false_eq_true, if_false] at r14
            simp -implicitDefEqProofs only [eq4, ox, ou, ko, ky, kn, kd, oy_seq, oy_ret, oy_exit, oy_skip, oy_cond, oy_block, oy_region, oy_draw, dr_eq, dre_some, stl_some, st_nil, st_op, ot, ov, os_same, sy_nil, sy_op, nxt_normal, nxt_ret, nxt_exit, blk_exit, blk_normal, blk_ret, reg_some, cnd_true, cnd_false, opr_some, grd_true, grd_false, fin_ret, fin_normal, finv_some, Region.wanted, opA, callV, aop, evalL, evalO, putE, binA, bi_add, bi_sub, bi_mul, bi_eql, bi_neq, bi_lss, bi_leq, bi_gtr, bi_geq, unA, ofVal, ofLeaf, resultsA, tupA, AV.rfL, AV.rf, yielded_yv, yv_bool, yv_undef, yv_none, og_n, List.replicate, Option.bind, heapFree, onlyReads, List.set, List.getD, List.getElem?_cons_succ, List.getElem?_cons_zero, Option.getD, Option.map, decide_true, decide_false, if_true, if_false, Bool.false_eq_true, Bool.not_true, Bool.not_false, beq_self_eq_true, Bool.true_and, Bool.and_true, Bool.and_self, Bool.false_and, Bool.and_false, Bool.true_or, Bool.or_true, Bool.false_or, Bool.or_false, Bool.or_self, List.length_cons, List.length_nil, List.cons_append, List.nil_append, ite_self, List.getElem?_toArray, Option.bind_some, Option.bind_none, og_tt, og_ff, og_tf, og_ft, Int.reduceBNe, Int.reduceBEq, Int.reduceLT, Int.reduceLE, alive_run, r14, r18, r14v, c1, c2, d1, d2, g, eqA, Try.underlying4, Option.map, List.getElem?_cons_succ, List.getElem?_cons_zero]
end Go.Proofs.Ytlbkcdfllglddaa.fmt
