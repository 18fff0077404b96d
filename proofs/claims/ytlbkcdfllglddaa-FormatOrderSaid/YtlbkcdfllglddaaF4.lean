/- The functions below the Format laws, 4: the program's numbers. Conditions: the bounds in each statement. -/
import Derived.Test.YtlbkcdfllglddaaF3
namespace Go.Proofs.Ytlbkcdfllglddaa.fmt
open Go Go.Ab
set_option maxRecDepth 100000
set_option linter.unusedSimpArgs false
set_option linter.unusedVariables false
attribute [local simp] ox ou ko ky kn kd oy_seq oy_ret oy_exit oy_skip oy_cond oy_block oy_region oy_draw dr_eq dre_some stl_some st_nil st_op ot ov os_same sy_nil sy_op nxt_normal nxt_ret nxt_exit blk_exit blk_normal blk_ret reg_some cnd_true cnd_false opr_some grd_true grd_false fin_ret fin_normal finv_some Region.wanted opA callV aop evalL evalO putE binA bi_add bi_sub bi_mul bi_eql bi_neq bi_lss bi_leq bi_gtr bi_geq unA ofVal ofLeaf resultsA tupA AV.rfL AV.rf yielded_yv yv_bool yv_undef yv_none og_n List.replicate Option.bind heapFree onlyReads
/-- how many bits a number has -/
def blen (x : Nat) : Nat := if x = 0 then 0 else Nat.log2 x + 1
theorem blen_le (x w : Nat) : blen x ≤ w ↔ x < 2 ^ w := by
  unfold blen
  split
  · rename_i h; subst h; exact ⟨fun _ => Nat.two_pow_pos w, fun _ => Nat.zero_le _⟩
  · rename_i h; exact (Nat.log2_lt h)
theorem blen_div {x k : Nat} (h : 2 ^ k ≤ x) : blen x = blen (x / 2 ^ k) + k := by
  have e : ∀ w, blen x ≤ w ↔ blen (x / 2 ^ k) + k ≤ w := by
    intro w
    rw [blen_le]
    by_cases hk : k ≤ w
    · have := blen_le (x / 2 ^ k) (w - k)
      have h2 : x / 2 ^ k < 2 ^ (w - k) ↔ x < 2 ^ w := by
        rw [Nat.div_lt_iff_lt_mul (Nat.two_pow_pos k), ← Nat.pow_add, Nat.sub_add_cancel hk]
      omega
    · have := two_pow_le (show w ≤ k by omega)
      omega
  have h1 := (e (blen x)).1 (Nat.le_refl _)
  have h2 := (e (blen (x / 2 ^ k) + k)).2 (Nat.le_refl _)
  omega
def strOf (ops : Array Oper) (i : Nat) : ByteArray := match ops[i]? with
  | some o => match o.op with | .index _ (.const (.string s)) _ => s | _ => ByteArray.empty
  | none => ByteArray.empty
theorem tab_len : (strOf (regAt Try.f37 10) 3).data.toList = (List.range 256).map fun v => UInt8.ofNat (blen v) := by decide +kernel
theorem tab_get (v : Nat) (h : v < 256) : (strOf (regAt Try.f37 10) 3).data.toList[v]? = some (UInt8.ofNat (blen v)) := by
  rw [tab_len, List.getElem?_map, List.getElem?_range h]; rfl
theorem blen_lt9 {v : Nat} (h : v < 256) : blen v ≤ 8 := (blen_le v 8).2 h
theorem len64_run (x : Nat) (hx : x < 2 ^ 64) (lo : Nat) (H : Heap) : callA Try.prog (om Try.prog) lo 37 [.int .u64 x] H = some (.int .i64 (blen x), H) := by
  have step : ∀ (y k c : Nat), y < 2 ^ (2 * k) → 1 ≤ k → k ≤ 32 → c ≤ 64 →
      blen y + c = blen (if 2 ^ k ≤ y then y / 2 ^ k else y) + (if 2 ^ k ≤ y then c + k else c) ∧ (if 2 ^ k ≤ y then y / 2 ^ k else y) < 2 ^ k := by
    intro y k c hy h1 h2 h3
    split
    · rename_i h
      refine ⟨by rw [blen_div h]; omega, ?_⟩
      rw [Nat.div_lt_iff_lt_mul (Nat.two_pow_pos k), ← Nat.pow_add]
      rwa [show k + k = 2 * k by omega]
    · exact ⟨rfl, by omega⟩
  obtain ⟨a1, a2⟩ := step x 32 0 hx (by decide) (by decide) (by decide)
  generalize hy1 : (if 2 ^ 32 ≤ x then x / 2 ^ 32 else x) = y1 at a1 a2
  generalize hc1 : (if 2 ^ 32 ≤ x then 0 + 32 else 0) = c1 at a1
  have hc1b : c1 ≤ 32 := by rw [← hc1]; split <;> omega
  obtain ⟨b1, b2⟩ := step y1 16 c1 a2 (by decide) (by decide) (by omega)
  generalize hy2 : (if 2 ^ 16 ≤ y1 then y1 / 2 ^ 16 else y1) = y2 at b1 b2
  generalize hc2 : (if 2 ^ 16 ≤ y1 then c1 + 16 else c1) = c2 at b1
  have hc2b : c2 ≤ 48 := by rw [← hc2]; split <;> omega
  obtain ⟨d1, d2⟩ := step y2 8 c2 b2 (by decide) (by decide) (by omega)
  generalize hy3 : (if 2 ^ 8 ≤ y2 then y2 / 2 ^ 8 else y2) = y3 at d1 d2
  generalize hc3 : (if 2 ^ 8 ≤ y2 then c2 + 8 else c2) = c3 at d1
  have hc3b : c3 ≤ 56 := by rw [← hc3]; split <;> omega
  have hb3 := blen_lt9 d2
  have ht := tab_get y3 d2
  have s1 : shiftA .shr .u64 (x : Int) 32 = some (.int .u64 ((x / 2 ^ 32 : Nat) : Int)) := u64_shr (y := 32) (by decide)
  have s2 : shiftA .shr .u64 (y1 : Int) 16 = some (.int .u64 ((y1 / 2 ^ 16 : Nat) : Int)) := u64_shr (y := 16) (by decide)
  have s3 : shiftA .shr .u64 (y2 : Int) 8 = some (.int .u64 ((y2 / 2 ^ 8 : Nat) : Int)) := u64_shr (y := 8) (by decide)
  have k1 : IntKind.u8.wrap (y3 : Int) = (y3 : Int) := by simp [IntKind.wrap, IntKind.bits, IntKind.signed]; omega
  have k2 : (UInt8.ofNat (blen y3)).toNat = blen y3 := by simp; omega
  have k3 : IntKind.i64.wrap ((blen y3 : Nat) : Int) = ((blen y3 : Nat) : Int) := wi64 (by omega) (by omega)
  have k4 : IntKind.i64.wrap ((c3 : Int) + ((blen y3 : Nat) : Int)) = ((blen x : Nat) : Int) := by rw [wi64 (by omega) (by omega)]; omega
  have k5 : IntKind.i64.wrap ((c1 : Int) + 16) = ((c1 + 16 : Nat) : Int) := by rw [wi64 (by omega) (by omega)]; push_cast; rfl
  have k6 : IntKind.i64.wrap ((c2 : Int) + 8) = ((c2 + 8 : Nat) : Int) := by rw [wi64 (by omega) (by omega)]; push_cast; rfl
  have k0 : (0 : Int) ≤ (y3 : Int) := by omega
  rw [call_eq Try.func37 rfl rfl]
  simp -implicitDefEqProofs +decide only [regAt, regIn, strOf, Try.f37, Option.getD, if_true, if_false, List.getElem?_toArray, List.getElem?_cons_succ, List.getElem?_cons_zero] at ht
  simp -implicitDefEqProofs only [Try.f37]
  by_cases h1 : 2 ^ 32 ≤ x
  all_goals by_cases h2 : 2 ^ 16 ≤ y1
  all_goals by_cases h3 : 2 ^ 8 ≤ y2
  all_goals
    simp only [h1, h2, h3, if_true, if_false] at hy1 hy2 hy3 hc1 hc2 hc3
    first | have g1 : decide ((4294967296 : Int) ≤ (x : Int)) = true := decide_eq_true (by omega) | have g1 : decide ((4294967296 : Int) ≤ (x : Int)) = false := decide_eq_false (by omega)
    first | have g2 : decide ((65536 : Int) ≤ (y1 : Int)) = true := decide_eq_true (by omega) | have g2 : decide ((65536 : Int) ≤ (y1 : Int)) = false := decide_eq_false (by omega)
    first | have g3 : decide ((256 : Int) ≤ (y2 : Int)) = true := decide_eq_true (by omega) | have g3 : decide ((256 : Int) ≤ (y2 : Int)) = false := decide_eq_false (by omega)
    have k7 : ∀ c : Int, c = c3 → IntKind.i64.wrap (c + ((blen y3 : Nat) : Int)) = ((blen x : Nat) : Int) := fun c h => by rw [h]; exact k4
    have q1 : IntKind.i64.wrap ((0 : Int) + 16) = 16 := by decide
    have q2 : IntKind.i64.wrap ((0 : Int) + 8) = 8 := by decide
    have q3 : IntKind.i64.wrap ((32 : Int) + 16) = 48 := by decide
    have q4 : IntKind.i64.wrap ((32 : Int) + 8) = 40 := by decide
    have q5 : IntKind.i64.wrap ((16 : Int) + 8) = 24 := by decide
    have q6 : IntKind.i64.wrap ((48 : Int) + 8) = 56 := by decide
    have r : ∃ c : Int, c = c3 ∧ (c = 0 ∨ c = 8 ∨ c = 16 ∨ c = 24 ∨ c = 32 ∨ c = 40 ∨ c = 48 ∨ c = 56) := ⟨c3, rfl, by omega⟩
    clear k4 k5 k6
    first | (obtain rfl : x = y1 := hy1) | rw [hy1] at s1
    first | (obtain rfl : y1 = y2 := hy2) | (obtain rfl : x = y2 := hy2) | rw [hy2] at s2
    first | (obtain rfl : y2 = y3 := hy3) | (obtain rfl : y1 = y3 := hy3) | (obtain rfl : x = y3 := hy3) | rw [hy3] at s3
    simp -implicitDefEqProofs only [ox, ou, ko, ky, kn, kd, oy_seq, oy_ret, oy_exit, oy_skip, oy_cond, oy_block, oy_region, oy_draw, dr_eq, dre_some, stl_some, st_nil, st_op, ot, ov, os_same, sy_nil, sy_op, nxt_normal, nxt_ret, nxt_exit, blk_exit, blk_normal, blk_ret, reg_some, cnd_true, cnd_false, opr_some, grd_true, grd_false, fin_ret, fin_normal, finv_some, Region.wanted, opA, callV, aop, evalL, evalO, putE, binA, bi_add, bi_sub, bi_mul, bi_eql, bi_neq, bi_lss, bi_leq, bi_gtr, bi_geq, unA, ofVal, ofLeaf, resultsA, tupA, AV.rfL, AV.rf, yielded_yv, yv_bool, yv_undef, yv_none, og_n, List.replicate, Option.bind, heapFree, onlyReads, List.set, List.getD, List.getElem?_cons_succ, List.getElem?_cons_zero, Option.getD, Option.map, decide_true, decide_false, if_true, if_false, Bool.false_eq_true, Bool.not_true, Bool.not_false, beq_self_eq_true, Bool.true_and, Bool.and_true, Bool.and_self, Bool.false_and, Bool.and_false, Bool.true_or, Bool.or_true, Bool.false_or, Bool.or_false, Bool.or_self, List.length_cons, List.length_nil, List.cons_append, List.nil_append, ite_self, List.getElem?_toArray, Option.bind_some, Option.bind_none, og_tt, og_ff, og_tf, og_ft, Int.reduceBNe, Int.reduceBEq, Int.reduceLT, Int.reduceLE, g1, g2, g3, s1, s2, s3, q1, q2, q3, q4, q5, q6, convertA, Try.underlying22, Try.underlying5, Try.underlying3, Try.underlying9, k1, indexA, k0, Int.toNat_natCast, ht, k2, k3]
    rw [k7 _ (by omega)]
end Go.Proofs.Ytlbkcdfllglddaa.fmt
