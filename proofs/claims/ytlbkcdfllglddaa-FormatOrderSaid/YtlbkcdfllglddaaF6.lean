/- The functions below the Format laws, 6: the program's Fit. Conditions: the bounds in each statement. -/
import Derived.Test.YtlbkcdfllglddaaF5
namespace Go.Proofs.Ytlbkcdfllglddaa.fmt
open Go Go.Ab
set_option maxRecDepth 100000
set_option linter.unusedSimpArgs false
set_option linter.unusedVariables false
attribute [local simp] ox ou ko ky kn kd oy_seq oy_ret oy_exit oy_skip oy_cond oy_block oy_region oy_draw dr_eq dre_some stl_some st_nil st_op ot ov os_same sy_nil sy_op nxt_normal nxt_ret nxt_exit blk_exit blk_normal blk_ret reg_some cnd_true cnd_false opr_some grd_true grd_false fin_ret fin_normal finv_some Region.wanted opA callV aop evalL evalO putE binA bi_add bi_sub bi_mul bi_eql bi_neq bi_lss bi_leq bi_gtr bi_geq unA ofVal ofLeaf resultsA tupA AV.rfL AV.rf yielded_yv yv_bool yv_undef yv_none og_n List.replicate Option.bind heapFree onlyReads
/-- the least width of a field for k, were there no limit -/
def fitV (kk k : Int) : Nat := if kk = 3 then max 1 (blen k.toNat) else if k < 0 then blen (-k - 1).toNat + 1 else blen k.toNat + 1
theorem fitV_pos (kk k : Int) : 1 ≤ fitV kk k := by
  unfold fitV
  by_cases h : kk = 3
  · rw [if_pos h]; omega
  · rw [if_neg h]; split <;> omega
theorem inF_fit {kk : Int} {w s : Nat} {n : Int} (hw : 1 ≤ w) :
    inF kk w s n = (decide (n % pow s = 0) && (decide (kk = 3 → 0 ≤ n / pow s) && decide (fitV kk (n / pow s) ≤ w))) := by
  have e0 : inF kk w s n = (decide (n % pow s = 0) && (decide (nLow kk w ≤ n / pow s) && decide (n / pow s ≤ nHigh kk w))) := rfl
  rw [e0]
  congr 1
  generalize n / pow s = k
  rw [Bool.eq_iff_iff]
  simp only [Bool.and_eq_true, decide_eq_true_eq]
  by_cases h3 : kk = 3
  · have e : (kk = 3 → 0 ≤ k) ↔ 0 ≤ k := ⟨fun f => f h3, fun f _ => f⟩
    rw [e]
    simp only [nLow, nHigh, fitV, h3, if_true]
    have := blen_le k.toNat w
    omega
  · have e : (kk = 3 → 0 ≤ k) ↔ True := ⟨fun _ => trivial, fun _ h => absurd h h3⟩
    rw [e, true_and]
    simp only [nLow, nHigh, fitV, h3, if_false]
    by_cases hk : k < 0
    · simp only [hk, if_true]
      have := blen_le (-k - 1).toNat (w - 1)
      omega
    · simp only [hk, if_false]
      have := blen_le k.toNat (w - 1)
      omega
theorem fitFrom_some {kk : Int} {s : Nat} {n : Int} {v : Nat} : ∀ (m w : Nat), (∀ u, w ≤ u → u < w + m → inF kk u s n = decide (v ≤ u)) → w ≤ v → v < w + m → fitFrom kk s n m w = some v
  | 0, w, _, _, h => absurd h (by omega)
  | m + 1, w, h, h1, h2 => by
    rw [fitFrom, h w (Nat.le_refl w) (by omega)]
    by_cases e : v ≤ w
    · obtain rfl : v = w := by omega
      simp
    · simp only [e, decide_false, Bool.false_eq_true, if_false]
      exact fitFrom_some m (w + 1) (fun u hu hu2 => h u (by omega) (by omega)) (by omega) (by omega)
theorem fitFrom_none {kk : Int} {s : Nat} {n : Int} : ∀ (m w : Nat), (∀ u, w ≤ u → u < w + m → inF kk u s n = false) → fitFrom kk s n m w = none
  | 0, w, _ => rfl
  | m + 1, w, h => by
    rw [fitFrom, h w (Nat.le_refl w) (by omega)]
    simp only [Bool.false_eq_true, if_false]
    exact fitFrom_none m (w + 1) (fun u hu hu2 => h u (by omega) (by omega))
/-- what Fit finds -/
theorem fitFrom_eq (kk : Int) (s : Nat) (n : Int) : fitFrom kk s n 32 1 = if inF kk 32 s n then some (fitV kk (n / pow s)) else none := by
  have hp := fitV_pos kk (n / pow s)
  cases h : inF kk 32 s n with
  | true =>
    have h2 := h
    rw [inF_fit (by decide)] at h2
    simp only [Bool.and_eq_true, decide_eq_true_eq] at h2
    obtain ⟨a, b, c⟩ := h2
    simp only [if_true]
    refine fitFrom_some 32 1 (fun u h1 h2 => ?_) hp (by omega)
    rw [inF_fit h1]
    have e : decide (kk = 3 → 0 ≤ n / pow s) = true := decide_eq_true b
    simp only [a, e, decide_true, Bool.true_and]
  | false =>
    simp only [Bool.false_eq_true, if_false]
    refine fitFrom_none 32 1 fun u h1 h2 => ?_
    rw [inF_fit h1]
    rw [inF_fit (by decide)] at h
    simp only [Bool.and_eq_false_iff, decide_eq_false_iff_not] at h ⊢
    rcases h with h | h | h
    · exact .inl h
    · exact .inr (.inl h)
    · exact .inr (.inr (by omega))
theorem numOk32 (kk s : Int) : numOk kk 32 s = numOk kk 1 s := by simp [numOk]
theorem fit_run (kk s n : Int) (hk0 : 0 ≤ kk) (hk : kk ≤ 255) (hn1 : -9223372036854775808 ≤ n) (hn2 : n ≤ 9223372036854775807) (lo : Nat) (H : Heap) :
    callA Try.prog (om Try.prog) lo 18 [.int .u8 kk, .int .i64 s, .int .i64 n] H = some (fitT kk s n, H) := by
  rw [call_eq Try.func18 rfl rfl]
  simp -implicitDefEqProofs only [Try.f18]
  have hr := field_run kk 32 s n hk0 hk hn1 hn2
  unfold fldT at hr
  rw [numOk32] at hr
  unfold fitT
  cases hn : numOk kk 1 s with
  | false =>
    simp only [hn, Bool.false_eq_true, if_false] at hr
    simp -implicitDefEqProofs only [ox, ou, ko, ky, kn, kd, oy_seq, oy_ret, oy_exit, oy_skip, oy_cond, oy_block, oy_region, oy_draw, dr_eq, dre_some, stl_some, st_nil, st_op, ot, ov, os_same, sy_nil, sy_op, nxt_normal, nxt_ret, nxt_exit, blk_exit, blk_normal, blk_ret, reg_some, cnd_true, cnd_false, opr_some, grd_true, grd_false, fin_ret, fin_normal, finv_some, Region.wanted, opA, callV, aop, evalL, evalO, putE, binA, bi_add, bi_sub, bi_mul, bi_eql, bi_neq, bi_lss, bi_leq, bi_gtr, bi_geq, unA, ofVal, ofLeaf, resultsA, tupA, AV.rfL, AV.rf, yielded_yv, yv_bool, yv_undef, yv_none, og_n, List.replicate, Option.bind, heapFree, onlyReads, List.set, List.getD, List.getElem?_cons_succ, List.getElem?_cons_zero, Option.getD, Option.map, decide_true, decide_false, if_true, if_false, Bool.false_eq_true, Bool.not_true, Bool.not_false, beq_self_eq_true, Bool.true_and, Bool.and_true, Bool.and_self, Bool.false_and, Bool.and_false, Bool.true_or, Bool.or_true, Bool.false_or, Bool.or_false, Bool.or_self, List.length_cons, List.length_nil, List.cons_append, List.nil_append, ite_self, List.getElem?_toArray, Option.bind_some, Option.bind_none, og_tt, og_ff, og_tf, og_ft, Int.reduceBNe, Int.reduceBEq, Int.reduceLT, Int.reduceLE, hr, List.getElem?_cons_succ, List.getElem?_cons_zero]
  | true =>
    simp only [hn, if_true] at hr
    obtain ⟨k1, k2, _, _, hs, hs2⟩ := numOk_iff.1 hn
    obtain ⟨s, rfl⟩ := Int.eq_ofNat_of_zero_le hs
    simp only [Int.toNat_natCast, show (32 : Int).toNat = 32 from rfl] at hr
    simp only [if_true, Int.toNat_natCast, fitFrom_eq]
    cases hf : inF kk 32 s n with
    | false =>
      simp only [hf, Bool.false_eq_true, if_false] at hr
      simp -implicitDefEqProofs only [ox, ou, ko, ky, kn, kd, oy_seq, oy_ret, oy_exit, oy_skip, oy_cond, oy_block, oy_region, oy_draw, dr_eq, dre_some, stl_some, st_nil, st_op, ot, ov, os_same, sy_nil, sy_op, nxt_normal, nxt_ret, nxt_exit, blk_exit, blk_normal, blk_ret, reg_some, cnd_true, cnd_false, opr_some, grd_true, grd_false, fin_ret, fin_normal, finv_some, Region.wanted, opA, callV, aop, evalL, evalO, putE, binA, bi_add, bi_sub, bi_mul, bi_eql, bi_neq, bi_lss, bi_leq, bi_gtr, bi_geq, unA, ofVal, ofLeaf, resultsA, tupA, AV.rfL, AV.rf, yielded_yv, yv_bool, yv_undef, yv_none, og_n, List.replicate, Option.bind, heapFree, onlyReads, List.set, List.getD, List.getElem?_cons_succ, List.getElem?_cons_zero, Option.getD, Option.map, decide_true, decide_false, if_true, if_false, Bool.false_eq_true, Bool.not_true, Bool.not_false, beq_self_eq_true, Bool.true_and, Bool.and_true, Bool.and_self, Bool.false_and, Bool.and_false, Bool.true_or, Bool.or_true, Bool.false_or, Bool.or_false, Bool.or_self, List.length_cons, List.length_nil, List.cons_append, List.nil_append, ite_self, List.getElem?_toArray, Option.bind_some, Option.bind_none, og_tt, og_ff, og_tf, og_ft, Int.reduceBNe, Int.reduceBEq, Int.reduceLT, Int.reduceLE, hr, List.getElem?_cons_succ, List.getElem?_cons_zero]
    | true =>
      simp only [hf, if_true] at hr
      rw [inF_fit (by decide)] at hf
      simp only [Bool.and_eq_true, decide_eq_true_eq] at hf
      obtain ⟨a, b, c⟩ := hf
      have bs := pw_bd (show s ≤ 3 by omega)
      have bk := i64_ediv hn1 hn2 (show (1 : Int) ≤ pow s by unfold pow; omega)
      have x1 : shiftA .shr .i64 n (s : Int) = some (.int .i64 (n / pow s)) := by
        rw [i64_shr (by omega)]; simp [pow]
      generalize n / pow s = k at *
      by_cases h3 : kk = 3
      · have g : (kk == 3) = true := by simp [h3]
        obtain ⟨j, rfl⟩ := Int.eq_ofNat_of_zero_le (b h3)
        have w1 : IntKind.u64.wrap (j : Int) = j := wrap_u64_lt (by omega)
        have e : fitV kk (j : Int) = max 1 (blen j) := by simp only [fitV, h3, if_true, Int.toNat_natCast]
        rw [e] at c ⊢
        have m : (if (blen j : Int) > 1 then (blen j : Int) else 1) = ((max 1 (blen j) : Nat) : Int) := by split <;> omega
        simp -implicitDefEqProofs only [ox, ou, ko, ky, kn, kd, oy_seq, oy_ret, oy_exit, oy_skip, oy_cond, oy_block, oy_region, oy_draw, dr_eq, dre_some, stl_some, st_nil, st_op, ot, ov, os_same, sy_nil, sy_op, nxt_normal, nxt_ret, nxt_exit, blk_exit, blk_normal, blk_ret, reg_some, cnd_true, cnd_false, opr_some, grd_true, grd_false, fin_ret, fin_normal, finv_some, Region.wanted, opA, callV, aop, evalL, evalO, putE, binA, bi_add, bi_sub, bi_mul, bi_eql, bi_neq, bi_lss, bi_leq, bi_gtr, bi_geq, unA, ofVal, ofLeaf, resultsA, tupA, AV.rfL, AV.rf, yielded_yv, yv_bool, yv_undef, yv_none, og_n, List.replicate, Option.bind, heapFree, onlyReads, List.set, List.getD, List.getElem?_cons_succ, List.getElem?_cons_zero, Option.getD, Option.map, decide_true, decide_false, if_true, if_false, Bool.false_eq_true, Bool.not_true, Bool.not_false, beq_self_eq_true, Bool.true_and, Bool.and_true, Bool.and_self, Bool.false_and, Bool.and_false, Bool.true_or, Bool.or_true, Bool.false_or, Bool.or_false, Bool.or_self, List.length_cons, List.length_nil, List.cons_append, List.nil_append, ite_self, List.getElem?_toArray, Option.bind_some, Option.bind_none, og_tt, og_ff, og_tf, og_ft, Int.reduceBNe, Int.reduceBEq, Int.reduceLT, Int.reduceLE, hr, x1, g, w1, len64_run j (by omega), maxA, m, convertA, Try.underlying3, Try.underlying22, List.getElem?_cons_succ, List.getElem?_cons_zero, show (((0 : Int) != 0) = false) from rfl]
      · have g : (kk == 3) = false := by simp [h3]
        by_cases hneg : k < 0
        · obtain ⟨j, hj⟩ := Int.eq_ofNat_of_zero_le (show 0 ≤ -k - 1 by omega)
          have e : fitV kk k = blen j + 1 := by simp only [fitV, h3, hneg, if_false, if_true, hj]; rfl
          rw [e] at c ⊢
          have x2 : unA .xor (.int .i64 k) = some (.int .i64 (j : Int)) := by
            have : IntKind.i64.wrap ((BitVec.ofInt 64 (-1) ^^^ BitVec.ofInt 64 k).toNat : Int) = (j : Int) := by
              have e1 : BitVec.ofInt 64 (-1) ^^^ BitVec.ofInt 64 k = ~~~ (BitVec.ofInt 64 k) := by
                have : BitVec.ofInt 64 (-1) = BitVec.allOnes 64 := by decide
                rw [this, BitVec.allOnes_xor]
              rw [e1, BitVec.toNat_not, BitVec.toNat_ofInt]
              have e2 : ((2 ^ 64 - 1 - (k % ((2 ^ 64 : Nat) : Int)).toNat : Nat) : Int) = j := by
                have : k % ((2 ^ 64 : Nat) : Int) = k + 18446744073709551616 := by
                  have h5 : (((2 : Nat) ^ 64 : Nat) : Int) = 18446744073709551616 := rfl
                  rw [h5]; omega
                rw [this]; omega
              rw [e2]; exact wi64 (by omega) (by omega)
            show some (AV.int .i64 (IntKind.i64.wrap ((BitVec.ofInt 64 (-1) ^^^ BitVec.ofInt 64 k).toNat : Int))) = _
            rw [this]
          have w1 : IntKind.u64.wrap (j : Int) = j := wrap_u64_lt (by omega)
          have w2 : IntKind.i64.wrap ((blen j : Int) + 1) = ((blen j + 1 : Nat) : Int) := by rw [wi64 (by omega) (by omega)]; push_cast; rfl
          simp -implicitDefEqProofs only [ox, ou, ko, ky, kn, kd, oy_seq, oy_ret, oy_skip, oy_cond, oy_region, sy_nil, sy_op, nxt_normal, nxt_ret, reg_some, cnd_true, cnd_false, opr_some, grd_true, grd_false, fin_ret, fin_normal, finv_some, ox, ou, ko, ky, kn, kd, oy_seq, oy_ret, oy_exit, oy_skip, oy_cond, oy_block, oy_region, oy_draw, dr_eq, dre_some, stl_some, st_nil, st_op, ot, ov, os_same, sy_nil, sy_op, nxt_normal, nxt_ret, nxt_exit, blk_exit, blk_normal, blk_ret, reg_some, cnd_true, cnd_false, opr_some, grd_true, grd_false, fin_ret, fin_normal, finv_some, Region.wanted, opA, callV, aop, evalL, evalO, putE, binA, bi_add, bi_sub, bi_mul, bi_eql, bi_neq, bi_lss, bi_leq, bi_gtr, bi_geq, ofVal, ofLeaf, resultsA, tupA, AV.rfL, AV.rf, yielded_yv, yv_bool, yv_undef, yv_none, og_n, List.replicate, Option.bind, heapFree, onlyReads, List.set, List.getD, List.getElem?_cons_succ, List.getElem?_cons_zero, Option.getD, Option.map, decide_true, decide_false, if_true, if_false, Bool.false_eq_true, Bool.not_true, Bool.not_false, beq_self_eq_true, Bool.true_and, Bool.and_true, Bool.and_self, Bool.false_and, Bool.and_false, Bool.true_or, Bool.or_true, Bool.false_or, Bool.or_false, Bool.or_self, List.length_cons, List.length_nil, List.cons_append, List.nil_append, ite_self, List.getElem?_toArray, Option.bind_some, Option.bind_none, og_tt, og_ff, og_tf, og_ft, Int.reduceBNe, Int.reduceBEq, Int.reduceLT, Int.reduceLE, hr, x1, g, hneg, x2, w1, w2, len64_run j (by omega), convertA, Try.underlying3, Try.underlying22, List.getElem?_cons_succ, List.getElem?_cons_zero, show (((0 : Int) != 0) = false) from rfl]
        · obtain ⟨j, rfl⟩ := Int.eq_ofNat_of_zero_le (show 0 ≤ k by omega)
          have e : fitV kk (j : Int) = blen j + 1 := by simp only [fitV, h3, hneg, if_false, Int.toNat_natCast]
          rw [e] at c ⊢
          have w1 : IntKind.u64.wrap (j : Int) = j := wrap_u64_lt (by omega)
          have w2 : IntKind.i64.wrap ((blen j : Int) + 1) = ((blen j + 1 : Nat) : Int) := by rw [wi64 (by omega) (by omega)]; push_cast; rfl
          simp -implicitDefEqProofs only [ox, ou, ko, ky, kn, kd, oy_seq, oy_ret, oy_exit, oy_skip, oy_cond, oy_block, oy_region, oy_draw, dr_eq, dre_some, stl_some, st_nil, st_op, ot, ov, os_same, sy_nil, sy_op, nxt_normal, nxt_ret, nxt_exit, blk_exit, blk_normal, blk_ret, reg_some, cnd_true, cnd_false, opr_some, grd_true, grd_false, fin_ret, fin_normal, finv_some, Region.wanted, opA, callV, aop, evalL, evalO, putE, binA, bi_add, bi_sub, bi_mul, bi_eql, bi_neq, bi_lss, bi_leq, bi_gtr, bi_geq, unA, ofVal, ofLeaf, resultsA, tupA, AV.rfL, AV.rf, yielded_yv, yv_bool, yv_undef, yv_none, og_n, List.replicate, Option.bind, heapFree, onlyReads, List.set, List.getD, List.getElem?_cons_succ, List.getElem?_cons_zero, Option.getD, Option.map, decide_true, decide_false, if_true, if_false, Bool.false_eq_true, Bool.not_true, Bool.not_false, beq_self_eq_true, Bool.true_and, Bool.and_true, Bool.and_self, Bool.false_and, Bool.and_false, Bool.true_or, Bool.or_true, Bool.false_or, Bool.or_false, Bool.or_self, List.length_cons, List.length_nil, List.cons_append, List.nil_append, ite_self, List.getElem?_toArray, Option.bind_some, Option.bind_none, og_tt, og_ff, og_tf, og_ft, Int.reduceBNe, Int.reduceBEq, Int.reduceLT, Int.reduceLE, hr, x1, g, hneg, w1, w2, len64_run j (by omega), convertA, Try.underlying3, Try.underlying22, List.getElem?_cons_succ, List.getElem?_cons_zero, show (((0 : Int) != 0) = false) from rfl]
end Go.Proofs.Ytlbkcdfllglddaa.fmt
