/- FormatFields, the run: whatever comes in, the law returns true and what follows. Conditions: in each statement. -/
import Derived.Test.YtlbkcdfllglddaaB2
import Derived.Test.YtlbkcdfllglddaaB1
/-! FormatFields, the run: whatever comes in, the law returns true. Conditions: numbers of their kinds, pieces that came in. -/
namespace Go.Proofs.Ytlbkcdfllglddaa.fmt
open Go Go.Ab
set_option maxRecDepth 100000
set_option linter.unusedSimpArgs false
set_option linter.unusedVariables false
attribute [local simp] ox ou ko ky kn kd oy_seq oy_ret oy_exit oy_skip oy_cond oy_block oy_region oy_draw dr_eq dre_some stl_some st_nil st_op ot ov os_same sy_nil sy_op nxt_normal nxt_ret nxt_exit blk_exit blk_normal blk_ret reg_some cnd_true cnd_false opr_some grd_true grd_false fin_ret fin_normal finv_some Region.wanted opA callV aop evalL evalO putE binA bi_add bi_sub bi_mul bi_eql bi_neq bi_lss bi_leq bi_gtr bi_geq unA ofVal ofLeaf resultsA tupA AV.rfL AV.rf yielded_yv yv_bool yv_undef yv_none og_n List.replicate Option.bind heapFree onlyReads
theorem RdI.rd {v : AV} {l : List Pi} (h : RdI v l) (H : Heap) : Rd H v l := .inl h
theorem RdI.rf {v : AV} {l : List Pi} (h : RdI v l) : v.rf = true := by obtain ⟨a, cap, rfl, _⟩ := h; rfl
theorem own_run {lo : Nat} {f : FuncId} {args : List AV} {v : AV} {H : Heap} (hr : AV.rfL args = true) (hv : v.rf = true) (h : ∃ H', callA Try.prog (om Try.prog) 0 f args H = some (v, H') ∧ Ext H H') : callA Try.prog (om Try.prog) lo f args H = some (v, H) := by
  obtain ⟨H', h1, _⟩ := h
  have := callA_own hr hv h1
  subst this
  rw [callA_lo (lo' := 0) hr]; exact h1
theorem maskT_rf (size : Int) (l : List Pi) : (maskT size l).rf = true := by unfold maskT; split <;> rfl
theorem getT_rf (size : Int) (w : Nat) (l : List Pi) : (getT size w l).rf = true := by unfold getT; split <;> (try split) <;> rfl
theorem putT_rf (size : Int) (w : Nat) (l : List Pi) (f : Nat) : (putT size w l f).rf = true := by unfold putT; split <;> (try split) <;> rfl
section
variable {v : AV} {l : List Pi} (hI : RdI v l) (hl : l.length ≤ 1000) (size : Int) (w f : Nat) (hw : w < 2 ^ 64) (hf : f < 2 ^ 64) (lo : Nat) (H : Heap)
include hI hl
theorem check_rf : callA Try.prog (om Try.prog) lo 26 [.int .i64 size, v] H = some (.int .i64 (chkE size l), H) :=
  own_run (by simp [AV.rfL, AV.rf, hI.rf]) rfl (check_run size l v 0 H (hI.rd H) (Nat.zero_le _) hl)
theorem mask_rf : callA Try.prog (om Try.prog) lo 20 [.int .i64 size, v] H = some (maskT size l, H) :=
  own_run (by simp [AV.rfL, AV.rf, hI.rf]) (maskT_rf _ _) (mask_run size l v 0 H (hI.rd H) (Nat.zero_le _) hl)
theorem refMask_rf : callA Try.prog (om Try.prog) lo 21 [.int .i64 size, v] H = some (maskT size l, H) :=
  own_run (by simp [AV.rfL, AV.rf, hI.rf]) (maskT_rf _ _) (refMask_run size l v 0 H (hI.rd H) (Nat.zero_le _) hl)
include hw
theorem get_rf : callA Try.prog (om Try.prog) lo 24 [.int .i64 size, .int .u64 w, v] H = some (getT size w l, H) :=
  own_run (by simp [AV.rfL, AV.rf, hI.rf]) (getT_rf _ _ _) (get_run size w hw l v 0 H (hI.rd H) (Nat.zero_le _) hl)
theorem refGet_rf : callA Try.prog (om Try.prog) lo 25 [.int .i64 size, .int .u64 w, v] H = some (getT size w l, H) :=
  own_run (by simp [AV.rfL, AV.rf, hI.rf]) (getT_rf _ _ _) (refGet_run size w hw l v 0 H (hI.rd H) (Nat.zero_le _) hl)
include hf
theorem put_rf : callA Try.prog (om Try.prog) lo 22 [.int .i64 size, .int .u64 w, v, .int .u64 f] H = some (putT size w l f, H) :=
  own_run (by simp [AV.rfL, AV.rf, hI.rf]) (putT_rf _ _ _ _) (put_run size w hw l v f hf 0 H (hI.rd H) (Nat.zero_le _) hl)
theorem refPut_rf : callA Try.prog (om Try.prog) lo 23 [.int .i64 size, .int .u64 w, v, .int .u64 f] H = some (putT size w l f, H) :=
  own_run (by simp [AV.rfL, AV.rf, hI.rf]) (putT_rf _ _ _ _) (refPut_run size w hw l v f hf 0 H (hI.rd H) (Nat.zero_le _) hl)
end
theorem getT_tup (size : Int) (w : Nat) (l : List Pi) : ∃ m e : Int, getT size w l = .tup [.int .u64 m, .int .i64 e] := by unfold getT; split <;> (try split) <;> exact ⟨_, _, rfl⟩
theorem putT_tup (size : Int) (w : Nat) (l : List Pi) (f : Nat) : ∃ m e : Int, putT size w l f = .tup [.int .u64 m, .int .i64 e] := by unfold putT; split <;> (try split) <;> exact ⟨_, _, rfl⟩
theorem stood49 : Try.prog.stoodInHeld 49 = false := by kernel_rfl
theorem guard49 : Try.prog.eqGuardType Try.prog.depth 49 = false := by kernel_rfl
theorem eq49 (a b c d : Int) : eqA Try.prog 49 (.agg [.int .i64 a, .int .i64 b]) (.agg [.int .i64 c, .int .i64 d]) = some (a == c && (b == d && true)) := by
  simp -implicitDefEqProofs [eqA, Try.underlying49, stood49, guard49, eqFlat, keyFits, Try.underlying3, eqLeafA]
theorem info49 : ∃ i, Try.prog.info? 49 = some i ∧ i.size = 2 ∧ i.bytes = 16 := by
  have h := in49
  cases e : Try.prog.info? 49 with
  | none => rw [e] at h; cases h
  | some i => rw [e] at h; simp at h; exact ⟨i, rfl, h.1, h.2⟩
theorem flat_cells (l : List Pi) : (l.map fun p => AV.agg (pcells p)).flatMap AV.cells = l.flatMap pcells := by
  induction l with
  | nil => rfl
  | cons p l ih => simp only [List.map_cons, List.flatMap_cons, ih]; rfl
theorem flat_len (l : List Pi) : (l.flatMap pcells).length = l.length * 2 := by
  induction l with
  | nil => rfl
  | cons p l ih => simp only [List.flatMap_cons, List.length_append, ih, List.length_cons]; show 2 + _ = _; omega
theorem flat_leafs (l : List Pi) : leafs (l.flatMap pcells) = true := by
  unfold leafs
  rw [List.all_eq_true]
  intro x hx
  obtain ⟨p, _, hp⟩ := List.mem_flatMap.1 hx
  simp only [pcells, List.mem_cons, List.not_mem_nil, or_false] at hp
  rcases hp with rfl | rfl <;> rfl
/-- pieces that came in, appended to an own slice of pieces -/
theorem app49 {v : AV} {l : List Pi} (hI : RdI v l) (hl : l.length ≤ 1000) {lo b : Nat} {H : Heap} {l0 : List Pi} (hlo : lo ≤ b) (hb : b < H.next) (h0 : l0.length ≤ 1000) (hg : H.get b = some (.cells 49 (l0.flatMap pcells))) :
    ∃ u H', appendA Try.prog lo H (some 39) (some 39) (.sl b 0 l0.length 2) v = some (u, H') ∧ H.next ≤ H'.next ∧ (∀ c, c < H.next → c ≠ b → H'.get c = H.get c) ∧ ∃ b', (b' = b ∨ H.next ≤ b') ∧ b' < H'.next ∧ u = .sl b' 0 (l0 ++ l).length 2 ∧ H'.get b' = some (.cells 49 ((l0 ++ l).flatMap pcells)) := by
  obtain ⟨i, hi, hs, hby⟩ := info49
  obtain ⟨a, cap, rfl, _⟩ := hI
  have e1 : elemsA H 2 (.rsl a cap 2 (l.map fun p => .agg (pcells p))) = some (l.flatMap pcells) := by
    simp only [elemsA, decide_true, Bool.true_or, if_true, flat_cells]
  have hok : appendOk i (.agg [.int .i64 0, .int .i64 0]) (l.flatMap pcells) l.length = true := by
    simp only [appendOk, hs, flat_len, flat_leafs, AV.cells]; simp
  have e2 : lenA H (.rsl a cap 2 (l.map fun p => .agg (pcells p))) = some l.length := by simp [lenA]
  by_cases hn : l.length = 0
  · obtain rfl := List.length_eq_zero_iff.1 hn
    refine ⟨.sl b 0 l0.length 2, H, ?_, Nat.le_refl _, fun _ _ _ => rfl, b, .inl rfl, hb, by simp, by simpa using hg⟩
    simp -implicitDefEqProofs only [appendA, Option.bind, Try.underlying39, srcOk, Bool.not_true, Bool.false_eq_true, if_false, hi, ze49, ce49, e1, e2, hok, if_true, appendTo, List.length_nil, slFits, hg, sz49, flat_len]
    simp
    exact hok
  · have hfit : appendFits i l0.length l.length = true := by simp only [appendFits, hby, Bool.and_eq_true, decide_eq_true_eq]; omega
    refine ⟨.sl H.next 0 (l0.length + l.length) 2, (H.kill b).push (.cells 49 (l0.flatMap pcells ++ l.flatMap pcells)), ?_, ?_, fun c hc hne => ?_, H.next, .inr (Nat.le_refl _), ?_, ?_, ?_⟩
    · simp -implicitDefEqProofs only [appendA, Option.bind, Try.underlying39, srcOk, Bool.not_true, Bool.false_eq_true, if_false, hi, ze49, ce49, e1, e2, hok, if_true, appendTo, hn, hg, hlo, hs, flat_len, hfit, decide_true, Bool.and_self]
    · simp
    · rw [Heap.get_push, if_neg (by simp; omega), Heap.get_kill, if_neg hne]
    · simp
    · simp
    · rw [Heap.get_push]; simp
end Go.Proofs.Ytlbkcdfllglddaa.fmt
/-! FormatFields, the run: its last loop. Conditions: in the statement. -/
namespace Go.Proofs.Ytlbkcdfllglddaa.fmt
open Go Go.Ab
set_option maxRecDepth 100000
set_option linter.unusedSimpArgs false
set_option linter.unusedVariables false
attribute [local simp] ox ou ko ky kn kd oy_seq oy_ret oy_exit oy_skip oy_cond oy_block oy_region oy_draw dr_eq dre_some stl_some st_nil st_op ot ov os_same sy_nil sy_op nxt_normal nxt_ret nxt_exit blk_exit blk_normal blk_ret reg_some cnd_true cnd_false opr_some grd_true grd_false fin_ret fin_normal finv_some Region.wanted opA callV aop evalL evalO putE binA bi_add bi_sub bi_mul bi_eql bi_neq bi_lss bi_leq bi_gtr bi_geq unA ofVal ofLeaf resultsA tupA AV.rfL AV.rf yielded_yv yv_bool yv_undef yv_none og_n List.replicate Option.bind heapFree onlyReads
def Fl4 (e : Option (Ex × St)) (H : Heap) : Prop := ∃ env, e = some (.exit 0, ⟨env, [], H⟩) ∧ env.length = 128 ∧ env.getD 22 undefA = .bool true
set_option maxHeartbeats 8000000 in
theorem fl4_loop (cx : Ctx) (lo : Nat) (H : Heap) (l : List Pi) (v u : AV) (hR : Rd H v l) (hu : Rd H u l) (hlen : l.length ≤ 1000) :
    ∀ (m i : Nat) {x0 x1 x3 x4 x5 x6 x7 x8 x10 x11 x12 x13 x14 x15 x16 x17 x18 x19 x20 x21 x24 x25 x26 x27 x28 x29 x30 x31 x32 x33 x34 x35 x36 x37 x38 x39 x40 x41 x42 x43 x44 x45 x46 x47 x48 x49 x50 x51 x52 x53 x54 x55 x56 x57 x58 x59 x60 x61 x62 x63 x64 x65 x66 x67 x68 x69 x70 x71 x72 x73 x74 x75 x76 x77 x78 x79 x80 x81 x82 x83 x84 x85 x86 x87 x88 x89 x90 x91 x92 x93 x94 x95 x96 x97 x98 x99 x100 x101 x102 x103 x104 x105 x106 x107 x108 x109 x110 x111 x112 x113 x114 x115 x116 x117 x118 x119 x120 x121 x122 x123 x124 x125 x126 x127 : AV}, i + m = l.length →
    Fl4 (om Try.prog cx lo (loopAt Try.f4 0) ⟨[x0, x1, v, x3, x4, x5, x6, x7, x8, u, x10, x11, x12, x13, x14, x15, x16, x17, x18, x19, x20, x21, .bool true, .int .i64 i, x24, x25, x26, x27, x28, x29, x30, x31, x32, x33, x34, x35, x36, x37, x38, x39, x40, x41, x42, x43, x44, x45, x46, x47, x48, x49, x50, x51, x52, x53, x54, x55, x56, x57, x58, x59, x60, x61, x62, x63, x64, x65, x66, x67, x68, x69, x70, x71, x72, x73, x74, x75, x76, x77, x78, x79, x80, x81, x82, x83, x84, x85, x86, x87, x88, x89, x90, x91, x92, x93, x94, x95, x96, x97, x98, x99, x100, x101, x102, x103, x104, x105, x106, x107, x108, x109, x110, x111, x112, x113, x114, x115, x116, x117, x118, x119, x120, x121, x122, x123, x124, x125, x126, x127], [], H⟩) H := by
  have d14 := dr4_14
  simp -implicitDefEqProofs +decide only [regAt, regIn, Option.getD, Try.f4, if_true, if_false] at d14
  simp -implicitDefEqProofs +decide only [loopAt, loopIn, firstC, Try.f4, Option.getD, if_true, if_false]
  have hln := hu.len
  intro m
  induction m with
  | zero =>
    intro i x0 x1 x3 x4 x5 x6 x7 x8 x10 x11 x12 x13 x14 x15 x16 x17 x18 x19 x20 x21 x24 x25 x26 x27 x28 x29 x30 x31 x32 x33 x34 x35 x36 x37 x38 x39 x40 x41 x42 x43 x44 x45 x46 x47 x48 x49 x50 x51 x52 x53 x54 x55 x56 x57 x58 x59 x60 x61 x62 x63 x64 x65 x66 x67 x68 x69 x70 x71 x72 x73 x74 x75 x76 x77 x78 x79 x80 x81 x82 x83 x84 x85 x86 x87 x88 x89 x90 x91 x92 x93 x94 x95 x96 x97 x98 x99 x100 x101 x102 x103 x104 x105 x106 x107 x108 x109 x110 x111 x112 x113 x114 x115 x116 x117 x118 x119 x120 x121 x122 x123 x124 x125 x126 x127 hi
    obtain rfl : i = l.length := by omega
    rw [oy_loop]
    simp -implicitDefEqProofs only [ox, ou, ko, ky, kn, kd, oy_seq, oy_ret, oy_exit, oy_skip, oy_cond, oy_block, oy_region, oy_draw, dr_eq, dre_some, stl_some, st_nil, st_op, ot, ov, os_same, sy_nil, sy_op, nxt_normal, nxt_ret, nxt_exit, blk_exit, blk_normal, blk_ret, reg_some, cnd_true, cnd_false, opr_some, grd_true, grd_false, fin_ret, fin_normal, finv_some, Region.wanted, opA, callV, aop, evalL, evalO, putE, binA, bi_add, bi_sub, bi_mul, bi_eql, bi_neq, bi_lss, bi_leq, bi_gtr, bi_geq, unA, ofVal, ofLeaf, resultsA, tupA, AV.rfL, AV.rf, yielded_yv, yv_bool, yv_undef, yv_none, og_n, List.replicate, Option.bind, heapFree, onlyReads, List.set, List.getD, List.getElem?_cons_succ, List.getElem?_cons_zero, Option.getD, Option.map, decide_true, decide_false, if_true, if_false, Bool.false_eq_true, Bool.not_true, Bool.not_false, beq_self_eq_true, Bool.true_and, Bool.and_true, Bool.and_self, Bool.false_and, Bool.and_false, Bool.true_or, Bool.or_true, Bool.false_or, Bool.or_false, Bool.or_self, List.length_cons, List.length_nil, List.cons_append, List.nil_append, ite_self, List.getElem?_toArray, Option.bind_some, Option.bind_none, og_tt, og_ff, og_tf, og_ft, Int.reduceBNe, Int.reduceBEq, Int.reduceLT, Int.reduceLE, hln, Int.lt_irrefl, Option.map]
    exact ⟨_, rfl, rfl, rfl⟩
  | succ m ih =>
    intro i x0 x1 x3 x4 x5 x6 x7 x8 x10 x11 x12 x13 x14 x15 x16 x17 x18 x19 x20 x21 x24 x25 x26 x27 x28 x29 x30 x31 x32 x33 x34 x35 x36 x37 x38 x39 x40 x41 x42 x43 x44 x45 x46 x47 x48 x49 x50 x51 x52 x53 x54 x55 x56 x57 x58 x59 x60 x61 x62 x63 x64 x65 x66 x67 x68 x69 x70 x71 x72 x73 x74 x75 x76 x77 x78 x79 x80 x81 x82 x83 x84 x85 x86 x87 x88 x89 x90 x91 x92 x93 x94 x95 x96 x97 x98 x99 x100 x101 x102 x103 x104 x105 x106 x107 x108 x109 x110 x111 x112 x113 x114 x115 x116 x117 x118 x119 x120 x121 x122 x123 x124 x125 x126 x127 hi
    have e1 : (i : Int) < (l.length : Int) := by omega
    obtain ⟨p, hp⟩ : ∃ p, l[i]? = some p := ⟨l[i]'(by omega), List.getElem?_eq_getElem (by omega)⟩
    obtain ⟨q, q0, q1, i1, i2, _⟩ := hR.at hp
    obtain ⟨r, r0, r1, j1, j2, _⟩ := hu.at hp
    have w3 : IntKind.i64.wrap ((i : Int) + 1) = ((i + 1 : Nat) : Int) := by rw [wi64 (by omega) (by omega)]; push_cast; rfl
    simp only [pcells] at i2 j2
    rw [oy_loop]
    simp -implicitDefEqProofs only [ox, ou, ko, ky, kn, kd, oy_seq, oy_ret, oy_exit, oy_skip, oy_cond, oy_block, oy_region, oy_draw, dr_eq, dre_some, stl_some, st_nil, st_op, ot, ov, os_same, sy_nil, sy_op, nxt_normal, nxt_ret, nxt_exit, blk_exit, blk_normal, blk_ret, reg_some, cnd_true, cnd_false, opr_some, grd_true, grd_false, fin_ret, fin_normal, finv_some, Region.wanted, opA, callV, aop, evalL, evalO, putE, binA, bi_add, bi_sub, bi_mul, bi_eql, bi_neq, bi_lss, bi_leq, bi_gtr, bi_geq, unA, ofVal, ofLeaf, resultsA, tupA, AV.rfL, AV.rf, yielded_yv, yv_bool, yv_undef, yv_none, og_n, List.replicate, Option.bind, heapFree, onlyReads, List.set, List.getD, List.getElem?_cons_succ, List.getElem?_cons_zero, Option.getD, Option.map, decide_true, decide_false, if_true, if_false, Bool.false_eq_true, Bool.not_true, Bool.not_false, beq_self_eq_true, Bool.true_and, Bool.and_true, Bool.and_self, Bool.false_and, Bool.and_false, Bool.true_or, Bool.or_true, Bool.false_or, Bool.or_false, Bool.or_self, List.length_cons, List.length_nil, List.cons_append, List.nil_append, ite_self, List.getElem?_toArray, Option.bind_some, Option.bind_none, og_tt, og_ff, og_tf, og_ft, Int.reduceBNe, Int.reduceBEq, Int.reduceLT, Int.reduceLE, d14, hln, e1, i1, i2, j1, j2, eq49, w3, List.take, List.drop, Option.map]
    exact ih (i + 1) (by omega)
end Go.Proofs.Ytlbkcdfllglddaa.fmt
/-! FormatFields, the run: whatever comes in, the law returns true. Conditions: numbers of their kinds, pieces that came in. -/
namespace Go.Proofs.Ytlbkcdfllglddaa.fmt
open Go Go.Ab
set_option maxRecDepth 100000
set_option linter.unusedSimpArgs false
set_option linter.unusedVariables false
attribute [local simp] ox ou ko ky kn kd oy_seq oy_ret oy_exit oy_skip oy_cond oy_block oy_region oy_draw dr_eq dre_some stl_some st_nil st_op ot ov os_same sy_nil sy_op nxt_normal nxt_ret nxt_exit blk_exit blk_normal blk_ret reg_some cnd_true cnd_false opr_some grd_true grd_false fin_ret fin_normal finv_some Region.wanted opA callV aop evalL evalO putE binA bi_add bi_sub bi_mul bi_eql bi_neq bi_lss bi_leq bi_gtr bi_geq unA ofVal ofLeaf resultsA tupA AV.rfL AV.rf yielded_yv yv_bool yv_undef yv_none og_n List.replicate Option.bind heapFree onlyReads
set_option maxHeartbeats 2000000 in
theorem law4 (size : Int) (w : Nat) (hw : w < 2 ^ 64) (l : List Pi) (v : AV) (hI : RdI v l) (hlm : l.length ≤ maxLen) (f : Nat) (hf : f < 2 ^ 64) (lo : Nat) (H : Heap) (hlo : lo ≤ H.next) :
    callA Try.prog (om Try.prog) lo 4 [.int .i64 size, .int .u64 w, v, .int .u64 f] H = some (.bool true, H) := by
  have hrf : AV.rfL [.int .i64 size, .int .u64 w, v, .int .u64 f] = true := by simp [AV.rfL, AV.rf, hI.rf]
  rw [call_eq Try.func4 rfl rfl]
  have hlo' := lo_le (own := AV.rfL [.int .i64 size, .int .u64 w, v, .int .u64 f]) hlo
  generalize (if AV.rfL [.int .i64 size, .int .u64 w, v, .int .u64 f] = true then H.next else lo) = lo' at hlo' ⊢
  rw [hrf]
  have hln := (hI.rd H).len
  by_cases h50 : 50 < l.length
  · have c : (50 : Int) < (l.length : Int) := by omega
    simp -implicitDefEqProofs only [Try.f4]
    simp -implicitDefEqProofs only [ox, ou, ko, ky, kn, kd, oy_seq, oy_ret, oy_exit, oy_skip, oy_cond, oy_block, oy_region, oy_draw, dr_eq, dre_some, stl_some, st_nil, st_op, ot, ov, os_same, sy_nil, sy_op, nxt_normal, nxt_ret, nxt_exit, blk_exit, blk_normal, blk_ret, reg_some, cnd_true, cnd_false, opr_some, grd_true, grd_false, fin_ret, fin_normal, finv_some, Region.wanted, opA, callV, aop, evalL, evalO, putE, binA, bi_add, bi_sub, bi_mul, bi_eql, bi_neq, bi_lss, bi_leq, bi_gtr, bi_geq, unA, ofVal, ofLeaf, resultsA, tupA, AV.rfL, AV.rf, yielded_yv, yv_bool, yv_undef, yv_none, og_n, List.replicate, Option.bind, heapFree, onlyReads, List.set, List.getD, List.getElem?_cons_succ, List.getElem?_cons_zero, Option.getD, Option.map, decide_true, decide_false, if_true, if_false, Bool.false_eq_true, Bool.not_true, Bool.not_false, beq_self_eq_true, Bool.true_and, Bool.and_true, Bool.and_self, Bool.false_and, Bool.and_false, Bool.true_or, Bool.or_true, Bool.false_or, Bool.or_false, Bool.or_self, List.length_cons, List.length_nil, List.cons_append, List.nil_append, ite_self, List.getElem?_toArray, Option.bind_some, Option.bind_none, og_tt, og_ff, og_tf, og_ft, Int.reduceBNe, Int.reduceBEq, Int.reduceLT, Int.reduceLE, hln, c, Option.map]
  · have c : ¬ ((50 : Int) < (l.length : Int)) := by omega
    obtain ⟨u, H1, r1, r2, r3, b', r4, r5, r6, r7⟩ := app49 hI (by omega) (lo := lo') (b := H.next) (H := H.push (.cells 49 [])) (l0 := []) hlo' (by simp) (by simp) (by rw [Heap.get_push, if_pos rfl]; rfl)
    have hbs : buildSliceA Try.prog H 39 0 [] = some (.sl H.next 0 0 2, H.push (.cells 49 [])) := by
      simp -implicitDefEqProofs [buildSliceA, Try.underlying39, sz49, ze49, fillA, zerosA, leafs, leafA, AV.cells]
    have hu : Rd H1 u l := .inr ⟨b', by simpa using r6, r5, by simpa using r7⟩
    obtain ⟨m1, m2, m3, _⟩ := maskT_tup size l
    obtain ⟨g1, g2, g3⟩ := getT_tup size w l
    obtain ⟨p1, p2, p3⟩ := putT_tup size w l f
    have k1 := mask_rf hI (by omega) size
    have k2 := refMask_rf hI (by omega) size
    have k3 := put_rf hI (by omega) size w f hw hf
    have k4 := refPut_rf hI (by omega) size w f hw hf
    have k5 := get_rf hI (by omega) size w hw
    have k6 := refGet_rf hI (by omega) size w hw
    have k7 := check_rf hI (by omega) size
    have k8 := fun lo H => refCheck_run size l v lo H (hI.rd H) (by omega)
    rw [m3] at k1 k2
    rw [g3] at k5 k6
    rw [p3] at k3 k4
    simp only [List.length_nil] at r1
    have L := fun cx lo => @fl4_loop cx lo H1 l v u (hI.rd H1) hu (by omega) l.length 0
    simp -implicitDefEqProofs +decide only [loopAt, loopIn, firstC, Try.f4, Option.getD, if_true, if_false] at L
    simp -implicitDefEqProofs only [Try.f4]
    simp -implicitDefEqProofs only [ox, ou, ko, ky, kn, kd, oy_seq, oy_ret, oy_exit, oy_skip, oy_cond, oy_block, oy_region, oy_draw, dr_eq, dre_some, stl_some, st_nil, st_op, ot, ov, os_same, sy_nil, sy_op, nxt_normal, nxt_ret, nxt_exit, blk_exit, blk_normal, blk_ret, reg_some, cnd_true, cnd_false, opr_some, grd_true, grd_false, fin_ret, fin_normal, finv_some, Region.wanted, opA, callV, aop, evalL, evalO, putE, binA, bi_add, bi_sub, bi_mul, bi_eql, bi_neq, bi_lss, bi_leq, bi_gtr, bi_geq, unA, ofVal, ofLeaf, resultsA, tupA, AV.rfL, AV.rf, yielded_yv, yv_bool, yv_undef, yv_none, og_n, List.replicate, Option.bind, heapFree, onlyReads, List.set, List.getD, List.getElem?_cons_succ, List.getElem?_cons_zero, Option.getD, Option.map, decide_true, decide_false, if_true, if_false, Bool.false_eq_true, Bool.not_true, Bool.not_false, beq_self_eq_true, Bool.true_and, Bool.and_true, Bool.and_self, Bool.false_and, Bool.and_false, Bool.true_or, Bool.or_true, Bool.false_or, Bool.or_false, Bool.or_self, List.length_cons, List.length_nil, List.cons_append, List.nil_append, ite_self, List.getElem?_toArray, Option.bind_some, Option.bind_none, og_tt, og_ff, og_tf, og_ft, Int.reduceBNe, Int.reduceBEq, Int.reduceLT, Int.reduceLE, hln, c, evalParts, hbs, r1, k1, k2, k3, k4, k5, k6, k7, k8, List.getElem?_cons_succ, List.getElem?_cons_zero, Option.map]
    generalize hr : om Try.prog _ _ (Code.loop _) _ = r
    have P : Fl4 r H1 := by rw [← hr]; exact L _ _ (by simp)
    obtain ⟨env, rfl, e1, e2⟩ := P
    have e3 : (env.set 127 (.bool true)).getD 127 undefA = .bool true := by simp [List.getD, e1]
    have e4 : ((env.set 127 (.bool true)).set 8 (.bool true)).getD 8 undefA = .bool true := by simp [List.getD, e1]
    simp -implicitDefEqProofs only [ox, ou, ko, ky, kn, kd, oy_seq, oy_ret, oy_exit, oy_skip, oy_cond, oy_block, oy_region, oy_draw, dr_eq, dre_some, stl_some, st_nil, st_op, ot, ov, os_same, sy_nil, sy_op, nxt_normal, nxt_ret, nxt_exit, blk_exit, blk_normal, blk_ret, reg_some, cnd_true, cnd_false, opr_some, grd_true, grd_false, fin_ret, fin_normal, finv_some, Region.wanted, opA, callV, aop, evalL, evalO, putE, binA, bi_add, bi_sub, bi_mul, bi_eql, bi_neq, bi_lss, bi_leq, bi_gtr, bi_geq, unA, ofVal, ofLeaf, resultsA, tupA, AV.rfL, AV.rf, yielded_yv, yv_bool, yv_undef, yv_none, og_n, List.replicate, Option.bind, heapFree, onlyReads, Bool.and_self, if_true, e2, e3, e4, Option.map]
end Go.Proofs.Ytlbkcdfllglddaa.fmt
/-! Put and Get are inverse; layouts apart do not disturb each other: in plain Lean. Conditions: in each statement. -/
namespace Go.Proofs.Ytlbkcdfllglddaa.fmt
theorem idx_get : ∀ (ps : List Nat) (i j : Nat), ps.idxOf? i = some j → ps[j]? = some i
  | [], i, j, h => by simp at h
  | p :: ps, i, j, h => by
    rw [List.idxOf?_cons] at h
    by_cases e : p = i
    · subst e
      simp at h
      subst h; rfl
    · have e' : (p == i) = false := by simp [e]
      rw [e'] at h
      simp at h
      obtain ⟨k, hk, rfl⟩ := h
      rw [List.getElem?_cons_succ]; exact idx_get ps i k hk
theorem get_idx : ∀ (ps : List Nat) (i j : Nat), ps.Nodup → ps[j]? = some i → ps.idxOf? i = some j
  | [], i, j, _, h => by simp at h
  | p :: ps, i, 0, _, h => by
    simp at h; subst h; rw [List.idxOf?_cons]; simp
  | p :: ps, i, j + 1, hn, h => by
    rw [List.nodup_cons] at hn
    rw [List.getElem?_cons_succ] at h
    have hm : i ∈ ps := List.mem_of_getElem? h
    have e' : (p == i) = false := by
      simp only [beq_eq_false_iff_ne, ne_eq]; rintro rfl; exact hn.1 hm
    rw [List.idxOf?_cons, e', get_idx ps i j hn.2 h]; simp
theorem put_get {ps : List Nat} (hn : ps.Nodup) (w : Nat) : putF ps w (getF ps w) = w := by
  apply Nat.eq_of_testBit_eq
  intro i
  rw [putF_bit _ _ _ _ hn]
  cases h : ps.idxOf? i with
  | none => rfl
  | some j => simp only [getF_bit, idx_get ps i j h]
theorem get_put {ps : List Nat} (hn : ps.Nodup) (w : Nat) {f : Nat} (hf : f < 2 ^ ps.length) : getF ps (putF ps w f) = f := by
  apply Nat.eq_of_testBit_eq
  intro j
  rw [getF_bit]
  cases h : ps[j]? with
  | none =>
    have : ps.length ≤ j := List.getElem?_eq_none_iff.1 h
    exact (Nat.testBit_lt_two_pow (Nat.lt_of_lt_of_le hf (Nat.pow_le_pow_right (by decide) this))).symm
  | some p => simp only [putF_bit _ _ _ _ hn, get_idx ps p j hn h]
theorem put_out {ps : List Nat} (hn : ps.Nodup) {w f : Nat} (hw : w < 2 ^ 64) (hp : putF ps w f < 2 ^ 64) (hm : orP ps < 2 ^ 64) : putF ps w f &&& (2 ^ 64 - 1 - orP ps) = w &&& (2 ^ 64 - 1 - orP ps) := by
  apply Nat.eq_of_testBit_eq
  intro i
  rw [andNot_bit hm hp, andNot_bit hm hw, putF_bit _ _ _ _ hn, orP_bit]
  cases h : ps.idxOf? i with
  | none => rfl
  | some j =>
    have : i ∈ ps := List.mem_of_getElem? (idx_get ps i j h)
    simp [this]
theorem put_comm {ps qs : List Nat} (hp : ps.Nodup) (hq : qs.Nodup) (hd : orP ps &&& orP qs = 0) (w x y : Nat) : putF qs (putF ps w x) y = putF ps (putF qs w y) x := by
  apply Nat.eq_of_testBit_eq
  intro i
  rw [putF_bit _ _ _ _ hq, putF_bit _ _ _ _ hp, putF_bit _ _ _ _ hp, putF_bit _ _ _ _ hq]
  cases h : ps.idxOf? i with
  | none => rfl
  | some j =>
    cases k : qs.idxOf? i with
    | none => rfl
    | some j' =>
      have h1 : i ∈ ps := List.mem_of_getElem? (idx_get ps i j h)
      have h2 : i ∈ qs := List.mem_of_getElem? (idx_get qs i j' k)
      exact absurd hd (and_ne_zero.2 ⟨i, by rw [orP_bit]; simpa using h1, by rw [orP_bit]; simpa using h2⟩)
end Go.Proofs.Ytlbkcdfllglddaa.fmt
/-! FormatPuts, FormatTwo, the runs: whatever comes in, the laws return true. Conditions: numbers of their kinds, pieces that came in. -/
namespace Go.Proofs.Ytlbkcdfllglddaa.fmt
open Go Go.Ab
set_option maxRecDepth 100000
set_option linter.unusedSimpArgs false
set_option linter.unusedVariables false
attribute [local simp] ox ou ko ky kn kd oy_seq oy_ret oy_exit oy_skip oy_cond oy_block oy_region oy_draw dr_eq dre_some stl_some st_nil st_op ot ov os_same sy_nil sy_op nxt_normal nxt_ret nxt_exit blk_exit blk_normal blk_ret reg_some cnd_true cnd_false opr_some grd_true grd_false fin_ret fin_normal finv_some Region.wanted opA callV aop evalL evalO putE binA bi_add bi_sub bi_mul bi_eql bi_neq bi_lss bi_leq bi_gtr bi_geq unA ofVal ofLeaf resultsA tupA AV.rfL AV.rf yielded_yv yv_bool yv_undef yv_none og_n List.replicate Option.bind heapFree onlyReads
theorem chk_ne (size : Int) (l : List Pi) (h : chkE size l ≠ 0) : (chkE size l != 0) = true := by simp [h]
set_option maxHeartbeats 4000000 in
theorem law5 (size : Int) (w : Nat) (hw : w < 2 ^ 64) (l : List Pi) (v : AV) (hI : RdI v l) (f : Nat) (hf : f < 2 ^ 64) (lo : Nat) :
    callA Try.prog (om Try.prog) lo 5 [.int .i64 size, .int .u64 w, v, .int .u64 f] Heap.empty = some (.bool true, Heap.empty) := by
  have hrf : AV.rfL [.int .i64 size, .int .u64 w, v, .int .u64 f] = true := by simp [AV.rfL, AV.rf, hI.rf]
  rw [call_eq Try.func5 rfl rfl, hrf]
  generalize (if true = true then Heap.empty.next else lo) = lo'
  simp -implicitDefEqProofs only [Try.f5]
  have hln := (hI.rd Heap.empty).len
  by_cases h50 : 50 < l.length
  · have c : (50 : Int) < (l.length : Int) := by omega
    simp -implicitDefEqProofs only [ox, ou, ko, ky, kn, kd, oy_seq, oy_ret, oy_exit, oy_skip, oy_cond, oy_block, oy_region, oy_draw, dr_eq, dre_some, stl_some, st_nil, st_op, ot, ov, os_same, sy_nil, sy_op, nxt_normal, nxt_ret, nxt_exit, blk_exit, blk_normal, blk_ret, reg_some, cnd_true, cnd_false, opr_some, grd_true, grd_false, fin_ret, fin_normal, finv_some, Region.wanted, opA, callV, aop, evalL, evalO, putE, binA, bi_add, bi_sub, bi_mul, bi_eql, bi_neq, bi_lss, bi_leq, bi_gtr, bi_geq, unA, ofVal, ofLeaf, resultsA, tupA, AV.rfL, AV.rf, yielded_yv, yv_bool, yv_undef, yv_none, og_n, List.replicate, Option.bind, heapFree, onlyReads, List.set, List.getD, List.getElem?_cons_succ, List.getElem?_cons_zero, Option.getD, Option.map, decide_true, decide_false, if_true, if_false, Bool.false_eq_true, Bool.not_true, Bool.not_false, beq_self_eq_true, Bool.true_and, Bool.and_true, Bool.and_self, Bool.false_and, Bool.and_false, Bool.true_or, Bool.or_true, Bool.false_or, Bool.or_false, Bool.or_self, List.length_cons, List.length_nil, List.cons_append, List.nil_append, ite_self, List.getElem?_toArray, Option.bind_some, Option.bind_none, og_tt, og_ff, og_tf, og_ft, Int.reduceBNe, Int.reduceBEq, Int.reduceLT, Int.reduceLE, alive_run, hln, c, Option.map]
  · have c : ¬ ((50 : Int) < (l.length : Int)) := by omega
    have k5 := get_rf hI (by omega) size w hw
    by_cases h0 : chkE size l = 0
    · obtain ⟨n, lN, rfl, h1, h2, rfl, hL, h4⟩ := chk_ok h0
      obtain ⟨a1, a2, a3⟩ := hL.at64 h2
      have k1 := mask_rf hI (by omega) (n : Int)
      simp only [maskT, h0, if_true, natl_map] at k1
      by_cases hwn : w < 2 ^ n
      · simp only [getT, h0, if_true, Int.toNat_natCast, hwn, natl_map] at k5
        have hg := getF_lt w (places lN)
        have hg64 : getF (places lN) w < 2 ^ 64 := Nat.lt_of_lt_of_le hg (two_pow_le (by unfold width at a2; omega))
        have k3 := put_rf hI (by omega) (n : Int) w (getF (places lN) w) hw hg64
        simp only [putT, h0, if_true, Int.toNat_natCast, hwn, natl_map, put_get hL.2, show getF (places lN) w < 2 ^ width lN from hg, and_self] at k3
        have k4 := put_rf hI (by omega) (n : Int) w f hw hf
        by_cases hfn : f < 2 ^ width lN
        · simp only [putT, h0, if_true, Int.toNat_natCast, hwn, natl_map, hfn, and_self] at k4
          have hpl : putF (places lN) w f < 2 ^ n := putF_lt _ _ _ _ hwn hL.lt
          have hp64 : putF (places lN) w f < 2 ^ 64 := Nat.lt_of_lt_of_le hpl (two_pow_le h2)
          have k6 := get_rf hI (by omega) (n : Int) (putF (places lN) w f) hp64
          simp only [getT, h0, if_true, Int.toNat_natCast, hpl, natl_map, get_put hL.2 w (show f < 2 ^ (places lN).length from hfn)] at k6
          have hm64 : orP (places lN) < 2 ^ 64 := orP_lt a3
          have b1 := Go.Ab.u64_andNot hp64 hm64
          have b2 := Go.Ab.u64_andNot hw hm64
          rw [put_out hL.2 hw hp64 hm64] at b1
          generalize putF (places lN) w f = nx at *
          generalize getF (places lN) w = gt at *
          generalize orP (places lN) = mk at *
          generalize w &&& (2 ^ 64 - 1 - mk) = z at *
          simp -implicitDefEqProofs only [ox, ou, ko, ky, kn, kd, oy_seq, oy_ret, oy_exit, oy_skip, oy_cond, oy_block, oy_region, oy_draw, dr_eq, dre_some, stl_some, st_nil, st_op, ot, ov, os_same, sy_nil, sy_op, nxt_normal, nxt_ret, nxt_exit, blk_exit, blk_normal, blk_ret, reg_some, cnd_true, cnd_false, opr_some, grd_true, grd_false, fin_ret, fin_normal, finv_some, Region.wanted, opA, callV, aop, evalL, evalO, putE, binA, bi_add, bi_sub, bi_mul, bi_eql, bi_neq, bi_lss, bi_leq, bi_gtr, bi_geq, unA, ofVal, ofLeaf, resultsA, tupA, AV.rfL, AV.rf, yielded_yv, yv_bool, yv_undef, yv_none, og_n, List.replicate, Option.bind, heapFree, onlyReads, List.set, List.getD, List.getElem?_cons_succ, List.getElem?_cons_zero, Option.getD, Option.map, decide_true, decide_false, if_true, if_false, Bool.false_eq_true, Bool.not_true, Bool.not_false, beq_self_eq_true, Bool.true_and, Bool.and_true, Bool.and_self, Bool.false_and, Bool.and_false, Bool.true_or, Bool.or_true, Bool.false_or, Bool.or_false, Bool.or_self, List.length_cons, List.length_nil, List.cons_append, List.nil_append, ite_self, List.getElem?_toArray, Option.bind_some, Option.bind_none, og_tt, og_ff, og_tf, og_ft, Int.reduceBNe, Int.reduceBEq, Int.reduceLT, Int.reduceLE, alive_run, hln, c, k1, k3, k4, k5, k6, b1, b2, bne_self_eq_false, List.getElem?_cons_succ, List.getElem?_cons_zero, Option.map]
        · simp only [putT, h0, if_true, Int.toNat_natCast, hwn, natl_map, hfn, and_false, if_false] at k4
          generalize getF (places lN) w = gt at *
          generalize orP (places lN) = mk at *
          simp -implicitDefEqProofs only [ox, ou, ko, ky, kn, kd, oy_seq, oy_ret, oy_exit, oy_skip, oy_cond, oy_block, oy_region, oy_draw, dr_eq, dre_some, stl_some, st_nil, st_op, ot, ov, os_same, sy_nil, sy_op, nxt_normal, nxt_ret, nxt_exit, blk_exit, blk_normal, blk_ret, reg_some, cnd_true, cnd_false, opr_some, grd_true, grd_false, fin_ret, fin_normal, finv_some, Region.wanted, opA, callV, aop, evalL, evalO, putE, binA, bi_add, bi_sub, bi_mul, bi_eql, bi_neq, bi_lss, bi_leq, bi_gtr, bi_geq, unA, ofVal, ofLeaf, resultsA, tupA, AV.rfL, AV.rf, yielded_yv, yv_bool, yv_undef, yv_none, og_n, List.replicate, Option.bind, heapFree, onlyReads, List.set, List.getD, List.getElem?_cons_succ, List.getElem?_cons_zero, Option.getD, Option.map, decide_true, decide_false, if_true, if_false, Bool.false_eq_true, Bool.not_true, Bool.not_false, beq_self_eq_true, Bool.true_and, Bool.and_true, Bool.and_self, Bool.false_and, Bool.and_false, Bool.true_or, Bool.or_true, Bool.false_or, Bool.or_false, Bool.or_self, List.length_cons, List.length_nil, List.cons_append, List.nil_append, ite_self, List.getElem?_toArray, Option.bind_some, Option.bind_none, og_tt, og_ff, og_tf, og_ft, Int.reduceBNe, Int.reduceBEq, Int.reduceLT, Int.reduceLE, alive_run, hln, c, k1, k3, k4, k5, bne_self_eq_false, List.getElem?_cons_succ, List.getElem?_cons_zero, Option.map]
      · simp only [getT, h0, if_true, Int.toNat_natCast, hwn, if_false] at k5
        simp -implicitDefEqProofs only [ox, ou, ko, ky, kn, kd, oy_seq, oy_ret, oy_exit, oy_skip, oy_cond, oy_block, oy_region, oy_draw, dr_eq, dre_some, stl_some, st_nil, st_op, ot, ov, os_same, sy_nil, sy_op, nxt_normal, nxt_ret, nxt_exit, blk_exit, blk_normal, blk_ret, reg_some, cnd_true, cnd_false, opr_some, grd_true, grd_false, fin_ret, fin_normal, finv_some, Region.wanted, opA, callV, aop, evalL, evalO, putE, binA, bi_add, bi_sub, bi_mul, bi_eql, bi_neq, bi_lss, bi_leq, bi_gtr, bi_geq, unA, ofVal, ofLeaf, resultsA, tupA, AV.rfL, AV.rf, yielded_yv, yv_bool, yv_undef, yv_none, og_n, List.replicate, Option.bind, heapFree, onlyReads, List.set, List.getD, List.getElem?_cons_succ, List.getElem?_cons_zero, Option.getD, Option.map, decide_true, decide_false, if_true, if_false, Bool.false_eq_true, Bool.not_true, Bool.not_false, beq_self_eq_true, Bool.true_and, Bool.and_true, Bool.and_self, Bool.false_and, Bool.and_false, Bool.true_or, Bool.or_true, Bool.false_or, Bool.or_false, Bool.or_self, List.length_cons, List.length_nil, List.cons_append, List.nil_append, ite_self, List.getElem?_toArray, Option.bind_some, Option.bind_none, og_tt, og_ff, og_tf, og_ft, Int.reduceBNe, Int.reduceBEq, Int.reduceLT, Int.reduceLE, alive_run, hln, c, k5, List.getElem?_cons_succ, List.getElem?_cons_zero, Option.map]
    · simp only [getT, h0, if_false] at k5
      simp -implicitDefEqProofs only [ox, ou, ko, ky, kn, kd, oy_seq, oy_ret, oy_exit, oy_skip, oy_cond, oy_block, oy_region, oy_draw, dr_eq, dre_some, stl_some, st_nil, st_op, ot, ov, os_same, sy_nil, sy_op, nxt_normal, nxt_ret, nxt_exit, blk_exit, blk_normal, blk_ret, reg_some, cnd_true, cnd_false, opr_some, grd_true, grd_false, fin_ret, fin_normal, finv_some, Region.wanted, opA, callV, aop, evalL, evalO, putE, binA, bi_add, bi_sub, bi_mul, bi_eql, bi_neq, bi_lss, bi_leq, bi_gtr, bi_geq, unA, ofVal, ofLeaf, resultsA, tupA, AV.rfL, AV.rf, yielded_yv, yv_bool, yv_undef, yv_none, og_n, List.replicate, Option.bind, heapFree, onlyReads, List.set, List.getD, List.getElem?_cons_succ, List.getElem?_cons_zero, Option.getD, Option.map, decide_true, decide_false, if_true, if_false, Bool.false_eq_true, Bool.not_true, Bool.not_false, beq_self_eq_true, Bool.true_and, Bool.and_true, Bool.and_self, Bool.false_and, Bool.and_false, Bool.true_or, Bool.or_true, Bool.false_or, Bool.or_false, Bool.or_self, List.length_cons, List.length_nil, List.cons_append, List.nil_append, ite_self, List.getElem?_toArray, Option.bind_some, Option.bind_none, og_tt, og_ff, og_tf, og_ft, Int.reduceBNe, Int.reduceBEq, Int.reduceLT, Int.reduceLE, alive_run, hln, c, k5, chk_ne size l h0, List.getElem?_cons_succ, List.getElem?_cons_zero, Option.map]
end Go.Proofs.Ytlbkcdfllglddaa.fmt
/-! FormatTwo, the run: whatever comes in, the law returns true. Conditions: numbers of their kinds, pieces that came in. -/
namespace Go.Proofs.Ytlbkcdfllglddaa.fmt
open Go Go.Ab
set_option maxRecDepth 100000
set_option linter.unusedSimpArgs false
set_option linter.unusedVariables false
attribute [local simp] ox ou ko ky kn kd oy_seq oy_ret oy_exit oy_skip oy_cond oy_block oy_region oy_draw dr_eq dre_some stl_some st_nil st_op ot ov os_same sy_nil sy_op nxt_normal nxt_ret nxt_exit blk_exit blk_normal blk_ret reg_some cnd_true cnd_false opr_some grd_true grd_false fin_ret fin_normal finv_some Region.wanted opA callV aop evalL evalO putE binA bi_add bi_sub bi_mul bi_eql bi_neq bi_lss bi_leq bi_gtr bi_geq unA ofVal ofLeaf resultsA tupA AV.rfL AV.rf yielded_yv yv_bool yv_undef yv_none og_n List.replicate Option.bind heapFree onlyReads
set_option maxHeartbeats 8000000 in
theorem law6 (size : Int) (w : Nat) (hw : w < 2 ^ 64) (l m : List Pi) (v u : AV) (hI : RdI v l) (hJ : RdI u m) (x y : Nat) (hx : x < 2 ^ 64) (hy : y < 2 ^ 64) (lo : Nat) :
    callA Try.prog (om Try.prog) lo 6 [.int .i64 size, .int .u64 w, v, u, .int .u64 x, .int .u64 y] Heap.empty = some (.bool true, Heap.empty) := by
  have hrf : AV.rfL [.int .i64 size, .int .u64 w, v, u, .int .u64 x, .int .u64 y] = true := by simp [AV.rfL, AV.rf, hI.rf, hJ.rf]
  rw [call_eq Try.func6 rfl rfl, hrf]
  generalize (if true = true then Heap.empty.next else lo) = lo'
  simp -implicitDefEqProofs only [Try.f6]
  have hln := (hI.rd Heap.empty).len
  have hlm := (hJ.rd Heap.empty).len
  by_cases h50 : 50 < l.length
  · have c : (50 : Int) < (l.length : Int) := by omega
    simp -implicitDefEqProofs only [ox, ou, ko, ky, kn, kd, oy_seq, oy_ret, oy_exit, oy_skip, oy_cond, oy_block, oy_region, oy_draw, dr_eq, dre_some, stl_some, st_nil, st_op, ot, ov, os_same, sy_nil, sy_op, nxt_normal, nxt_ret, nxt_exit, blk_exit, blk_normal, blk_ret, reg_some, cnd_true, cnd_false, opr_some, grd_true, grd_false, fin_ret, fin_normal, finv_some, Region.wanted, opA, callV, aop, evalL, evalO, putE, binA, bi_add, bi_sub, bi_mul, bi_eql, bi_neq, bi_lss, bi_leq, bi_gtr, bi_geq, unA, ofVal, ofLeaf, resultsA, tupA, AV.rfL, AV.rf, yielded_yv, yv_bool, yv_undef, yv_none, og_n, List.replicate, Option.bind, heapFree, onlyReads, List.set, List.getD, List.getElem?_cons_succ, List.getElem?_cons_zero, Option.getD, Option.map, decide_true, decide_false, if_true, if_false, Bool.false_eq_true, Bool.not_true, Bool.not_false, beq_self_eq_true, Bool.true_and, Bool.and_true, Bool.and_self, Bool.false_and, Bool.and_false, Bool.true_or, Bool.or_true, Bool.false_or, Bool.or_false, Bool.or_self, List.length_cons, List.length_nil, List.cons_append, List.nil_append, ite_self, List.getElem?_toArray, Option.bind_some, Option.bind_none, og_tt, og_ff, og_tf, og_ft, Int.reduceBNe, Int.reduceBEq, Int.reduceLT, Int.reduceLE, alive_run, hln, c, Option.map]
  · have c : ¬ ((50 : Int) < (l.length : Int)) := by omega
    by_cases m50 : 50 < m.length
    · have cm : (50 : Int) < (m.length : Int) := by omega
      simp -implicitDefEqProofs only [ox, ou, ko, ky, kn, kd, oy_seq, oy_ret, oy_exit, oy_skip, oy_cond, oy_block, oy_region, oy_draw, dr_eq, dre_some, stl_some, st_nil, st_op, ot, ov, os_same, sy_nil, sy_op, nxt_normal, nxt_ret, nxt_exit, blk_exit, blk_normal, blk_ret, reg_some, cnd_true, cnd_false, opr_some, grd_true, grd_false, fin_ret, fin_normal, finv_some, Region.wanted, opA, callV, aop, evalL, evalO, putE, binA, bi_add, bi_sub, bi_mul, bi_eql, bi_neq, bi_lss, bi_leq, bi_gtr, bi_geq, unA, ofVal, ofLeaf, resultsA, tupA, AV.rfL, AV.rf, yielded_yv, yv_bool, yv_undef, yv_none, og_n, List.replicate, Option.bind, heapFree, onlyReads, List.set, List.getD, List.getElem?_cons_succ, List.getElem?_cons_zero, Option.getD, Option.map, decide_true, decide_false, if_true, if_false, Bool.false_eq_true, Bool.not_true, Bool.not_false, beq_self_eq_true, Bool.true_and, Bool.and_true, Bool.and_self, Bool.false_and, Bool.and_false, Bool.true_or, Bool.or_true, Bool.false_or, Bool.or_false, Bool.or_self, List.length_cons, List.length_nil, List.cons_append, List.nil_append, ite_self, List.getElem?_toArray, Option.bind_some, Option.bind_none, og_tt, og_ff, og_tf, og_ft, Int.reduceBNe, Int.reduceBEq, Int.reduceLT, Int.reduceLE, alive_run, hln, c, hlm, cm, Option.map]
    · have cm : ¬ ((50 : Int) < (m.length : Int)) := by omega
      have k1 := mask_rf hI (by omega) size
      have k2 := mask_rf hJ (by omega) size
      obtain ⟨mm, me, mt, mc⟩ := maskT_tup size m
      by_cases h0 : chkE size l = 0
      · by_cases g0 : chkE size m = 0
        · obtain ⟨n, lN, rfl, h1, h2, rfl, hL, h4⟩ := chk_ok h0
          obtain ⟨n', mN, en, _, _, rfl, hM, _⟩ := chk_ok g0
          obtain rfl : n = n' := by omega
          obtain ⟨a1, a2, a3⟩ := hL.at64 h2
          obtain ⟨b1, b2, b3⟩ := hM.at64 h2
          simp only [maskT, h0, if_true, natl_map] at k1
          simp only [maskT, g0, if_true, natl_map] at k2
          have hml : orP (places lN) < 2 ^ 64 := orP_lt a3
          have hmm : orP (places mN) < 2 ^ 64 := orP_lt b3
          have hand := Go.Ab.u64_and hml hmm
          by_cases hd : orP (places lN) &&& orP (places mN) = 0
          · rw [hd] at hand
            have k3 := put_rf hI (by omega) (n : Int) w x hw hx
            have k4 := put_rf hJ (by omega) (n : Int) w y hw hy
            by_cases hwx : w < 2 ^ n ∧ x < 2 ^ width lN
            · by_cases hwy : w < 2 ^ n ∧ y < 2 ^ width mN
              · simp only [putT, h0, if_true, Int.toNat_natCast, natl_map, hwx, and_self] at k3
                simp only [putT, g0, if_true, Int.toNat_natCast, natl_map, hwx.1, hwy.2, and_self] at k4
                have p1 : putF (places lN) w x < 2 ^ n := putF_lt _ _ _ _ hwx.1 hL.lt
                have p2 : putF (places mN) w y < 2 ^ n := putF_lt _ _ _ _ hwx.1 hM.lt
                have p164 : putF (places lN) w x < 2 ^ 64 := Nat.lt_of_lt_of_le p1 (two_pow_le h2)
                have p264 : putF (places mN) w y < 2 ^ 64 := Nat.lt_of_lt_of_le p2 (two_pow_le h2)
                have k5 := put_rf hJ (by omega) (n : Int) (putF (places lN) w x) y p164 hy
                have k6 := put_rf hI (by omega) (n : Int) (putF (places mN) w y) x p264 hx
                simp only [putT, g0, if_true, Int.toNat_natCast, natl_map, p1, hwy.2, and_self] at k5
                simp only [putT, h0, if_true, Int.toNat_natCast, natl_map, p2, hwx.2, and_self] at k6
                have hc := put_comm hL.2 hM.2 hd w x y
                have q1 : putF (places mN) (putF (places lN) w x) y < 2 ^ n := putF_lt _ _ _ _ p1 hM.lt
                have q164 := Nat.lt_of_lt_of_le q1 (two_pow_le h2)
                have k7 := get_rf hI (by omega) (n : Int) (putF (places mN) (putF (places lN) w x) y) q164
                have k8 := get_rf hJ (by omega) (n : Int) (putF (places mN) (putF (places lN) w x) y) q164
                have g1 : getF (places lN) (putF (places mN) (putF (places lN) w x) y) = x := by rw [hc]; exact get_put hL.2 _ hwx.2
                have g2 : getF (places mN) (putF (places mN) (putF (places lN) w x) y) = y := get_put hM.2 _ hwy.2
                simp only [getT, h0, if_true, Int.toNat_natCast, q1, natl_map, g1] at k7
                simp only [getT, g0, if_true, Int.toNat_natCast, q1, natl_map, g2] at k8
                rw [← hc] at k6
                generalize putF (places mN) (putF (places lN) w x) y = z at *
                generalize putF (places lN) w x = z1 at *
                generalize putF (places mN) w y = z2 at *
                generalize orP (places lN) = o1 at *
                generalize orP (places mN) = o2 at *
                simp -implicitDefEqProofs only [ox, ou, ko, ky, kn, kd, oy_seq, oy_ret, oy_exit, oy_skip, oy_cond, oy_block, oy_region, oy_draw, dr_eq, dre_some, stl_some, st_nil, st_op, ot, ov, os_same, sy_nil, sy_op, nxt_normal, nxt_ret, nxt_exit, blk_exit, blk_normal, blk_ret, reg_some, cnd_true, cnd_false, opr_some, grd_true, grd_false, fin_ret, fin_normal, finv_some, Region.wanted, opA, callV, aop, evalL, evalO, putE, binA, bi_add, bi_sub, bi_mul, bi_eql, bi_neq, bi_lss, bi_leq, bi_gtr, bi_geq, unA, ofVal, ofLeaf, resultsA, tupA, AV.rfL, AV.rf, yielded_yv, yv_bool, yv_undef, yv_none, og_n, List.replicate, Option.bind, heapFree, onlyReads, List.set, List.getD, List.getElem?_cons_succ, List.getElem?_cons_zero, Option.getD, Option.map, decide_true, decide_false, if_true, if_false, Bool.false_eq_true, Bool.not_true, Bool.not_false, beq_self_eq_true, Bool.true_and, Bool.and_true, Bool.and_self, Bool.false_and, Bool.and_false, Bool.true_or, Bool.or_true, Bool.false_or, Bool.or_false, Bool.or_self, List.length_cons, List.length_nil, List.cons_append, List.nil_append, ite_self, List.getElem?_toArray, Option.bind_some, Option.bind_none, og_tt, og_ff, og_tf, og_ft, Int.reduceBNe, Int.reduceBEq, Int.reduceLT, Int.reduceLE, alive_run, hln, hlm, c, cm, k1, k2, k3, k4, k5, k6, k7, k8, hand, c0, bne_self_eq_false, List.getElem?_cons_succ, List.getElem?_cons_zero, Option.map]
              · obtain ⟨pm1, pe1, pt1⟩ := putT_tup (n : Int) w (mN.map toPi) y
                have hy24 : putT (n : Int) w (mN.map toPi) y = .tup [.int .u64 0, .int .i64 24] := by
                  simp only [putT, g0, if_true, Int.toNat_natCast, natl_map, hwy, if_false]
                rw [hy24] at k4
                simp only [putT, h0, if_true, Int.toNat_natCast, natl_map, hwx, and_self] at k3
                simp -implicitDefEqProofs only [ox, ou, ko, ky, kn, kd, oy_seq, oy_ret, oy_exit, oy_skip, oy_cond, oy_block, oy_region, oy_draw, dr_eq, dre_some, stl_some, st_nil, st_op, ot, ov, os_same, sy_nil, sy_op, nxt_normal, nxt_ret, nxt_exit, blk_exit, blk_normal, blk_ret, reg_some, cnd_true, cnd_false, opr_some, grd_true, grd_false, fin_ret, fin_normal, finv_some, Region.wanted, opA, callV, aop, evalL, evalO, putE, binA, bi_add, bi_sub, bi_mul, bi_eql, bi_neq, bi_lss, bi_leq, bi_gtr, bi_geq, unA, ofVal, ofLeaf, resultsA, tupA, AV.rfL, AV.rf, yielded_yv, yv_bool, yv_undef, yv_none, og_n, List.replicate, Option.bind, heapFree, onlyReads, List.set, List.getD, List.getElem?_cons_succ, List.getElem?_cons_zero, Option.getD, Option.map, decide_true, decide_false, if_true, if_false, Bool.false_eq_true, Bool.not_true, Bool.not_false, beq_self_eq_true, Bool.true_and, Bool.and_true, Bool.and_self, Bool.false_and, Bool.and_false, Bool.true_or, Bool.or_true, Bool.false_or, Bool.or_false, Bool.or_self, List.length_cons, List.length_nil, List.cons_append, List.nil_append, ite_self, List.getElem?_toArray, Option.bind_some, Option.bind_none, og_tt, og_ff, og_tf, og_ft, Int.reduceBNe, Int.reduceBEq, Int.reduceLT, Int.reduceLE, alive_run, hln, hlm, c, cm, k1, k2, k3, k4, hand, c0, bne_self_eq_false, List.getElem?_cons_succ, List.getElem?_cons_zero, Option.map]
            · obtain ⟨pm1, pe1, pt1⟩ := putT_tup (n : Int) w (mN.map toPi) y
              have hx24 : putT (n : Int) w (lN.map toPi) x = .tup [.int .u64 0, .int .i64 24] := by
                simp only [putT, h0, if_true, Int.toNat_natCast, natl_map, hwx, if_false]
              rw [hx24] at k3
              rw [pt1] at k4
              simp -implicitDefEqProofs only [ox, ou, ko, ky, kn, kd, oy_seq, oy_ret, oy_exit, oy_skip, oy_cond, oy_block, oy_region, oy_draw, dr_eq, dre_some, stl_some, st_nil, st_op, ot, ov, os_same, sy_nil, sy_op, nxt_normal, nxt_ret, nxt_exit, blk_exit, blk_normal, blk_ret, reg_some, cnd_true, cnd_false, opr_some, grd_true, grd_false, fin_ret, fin_normal, finv_some, Region.wanted, opA, callV, aop, evalL, evalO, putE, binA, bi_add, bi_sub, bi_mul, bi_eql, bi_neq, bi_lss, bi_leq, bi_gtr, bi_geq, unA, ofVal, ofLeaf, resultsA, tupA, AV.rfL, AV.rf, yielded_yv, yv_bool, yv_undef, yv_none, og_n, List.replicate, Option.bind, heapFree, onlyReads, List.set, List.getD, List.getElem?_cons_succ, List.getElem?_cons_zero, Option.getD, Option.map, decide_true, decide_false, if_true, if_false, Bool.false_eq_true, Bool.not_true, Bool.not_false, beq_self_eq_true, Bool.true_and, Bool.and_true, Bool.and_self, Bool.false_and, Bool.and_false, Bool.true_or, Bool.or_true, Bool.false_or, Bool.or_false, Bool.or_self, List.length_cons, List.length_nil, List.cons_append, List.nil_append, ite_self, List.getElem?_toArray, Option.bind_some, Option.bind_none, og_tt, og_ff, og_tf, og_ft, Int.reduceBNe, Int.reduceBEq, Int.reduceLT, Int.reduceLE, alive_run, hln, hlm, c, cm, k1, k2, k3, k4, hand, c0, bne_self_eq_false, List.getElem?_cons_succ, List.getElem?_cons_zero, Option.map]
          · have hne : (((orP (places lN) &&& orP (places mN) : Nat) : Int) != 0) = true := by simp only [bne_iff_ne, ne_eq]; omega
            simp -implicitDefEqProofs only [ox, ou, ko, ky, kn, kd, oy_seq, oy_ret, oy_exit, oy_skip, oy_cond, oy_block, oy_region, oy_draw, dr_eq, dre_some, stl_some, st_nil, st_op, ot, ov, os_same, sy_nil, sy_op, nxt_normal, nxt_ret, nxt_exit, blk_exit, blk_normal, blk_ret, reg_some, cnd_true, cnd_false, opr_some, grd_true, grd_false, fin_ret, fin_normal, finv_some, Region.wanted, opA, callV, aop, evalL, evalO, putE, binA, bi_add, bi_sub, bi_mul, bi_eql, bi_neq, bi_lss, bi_leq, bi_gtr, bi_geq, unA, ofVal, ofLeaf, resultsA, tupA, AV.rfL, AV.rf, yielded_yv, yv_bool, yv_undef, yv_none, og_n, List.replicate, Option.bind, heapFree, onlyReads, List.set, List.getD, List.getElem?_cons_succ, List.getElem?_cons_zero, Option.getD, Option.map, decide_true, decide_false, if_true, if_false, Bool.false_eq_true, Bool.not_true, Bool.not_false, beq_self_eq_true, Bool.true_and, Bool.and_true, Bool.and_self, Bool.false_and, Bool.and_false, Bool.true_or, Bool.or_true, Bool.false_or, Bool.or_false, Bool.or_self, List.length_cons, List.length_nil, List.cons_append, List.nil_append, ite_self, List.getElem?_toArray, Option.bind_some, Option.bind_none, og_tt, og_ff, og_tf, og_ft, Int.reduceBNe, Int.reduceBEq, Int.reduceLT, Int.reduceLE, alive_run, hln, hlm, c, cm, k1, k2, hand, hne, bne_self_eq_false, List.getElem?_cons_succ, List.getElem?_cons_zero, Option.map]
        · simp only [maskT, g0, if_false] at k2
          simp only [maskT, h0, if_true] at k1
          simp -implicitDefEqProofs only [ox, ou, ko, ky, kn, kd, oy_seq, oy_ret, oy_exit, oy_skip, oy_cond, oy_block, oy_region, oy_draw, dr_eq, dre_some, stl_some, st_nil, st_op, ot, ov, os_same, sy_nil, sy_op, nxt_normal, nxt_ret, nxt_exit, blk_exit, blk_normal, blk_ret, reg_some, cnd_true, cnd_false, opr_some, grd_true, grd_false, fin_ret, fin_normal, finv_some, Region.wanted, opA, callV, aop, evalL, evalO, putE, binA, bi_add, bi_sub, bi_mul, bi_eql, bi_neq, bi_lss, bi_leq, bi_gtr, bi_geq, unA, ofVal, ofLeaf, resultsA, tupA, AV.rfL, AV.rf, yielded_yv, yv_bool, yv_undef, yv_none, og_n, List.replicate, Option.bind, heapFree, onlyReads, List.set, List.getD, List.getElem?_cons_succ, List.getElem?_cons_zero, Option.getD, Option.map, decide_true, decide_false, if_true, if_false, Bool.false_eq_true, Bool.not_true, Bool.not_false, beq_self_eq_true, Bool.true_and, Bool.and_true, Bool.and_self, Bool.false_and, Bool.and_false, Bool.true_or, Bool.or_true, Bool.false_or, Bool.or_false, Bool.or_self, List.length_cons, List.length_nil, List.cons_append, List.nil_append, ite_self, List.getElem?_toArray, Option.bind_some, Option.bind_none, og_tt, og_ff, og_tf, og_ft, Int.reduceBNe, Int.reduceBEq, Int.reduceLT, Int.reduceLE, alive_run, hln, hlm, c, cm, k1, k2, chk_ne size m g0, bne_self_eq_false, List.getElem?_cons_succ, List.getElem?_cons_zero, Option.map]
      · simp only [maskT, h0, if_false] at k1
        rw [mt] at k2
        simp -implicitDefEqProofs only [ox, ou, ko, ky, kn, kd, oy_seq, oy_ret, oy_exit, oy_skip, oy_cond, oy_block, oy_region, oy_draw, dr_eq, dre_some, stl_some, st_nil, st_op, ot, ov, os_same, sy_nil, sy_op, nxt_normal, nxt_ret, nxt_exit, blk_exit, blk_normal, blk_ret, reg_some, cnd_true, cnd_false, opr_some, grd_true, grd_false, fin_ret, fin_normal, finv_some, Region.wanted, opA, callV, aop, evalL, evalO, putE, binA, bi_add, bi_sub, bi_mul, bi_eql, bi_neq, bi_lss, bi_leq, bi_gtr, bi_geq, unA, ofVal, ofLeaf, resultsA, tupA, AV.rfL, AV.rf, yielded_yv, yv_bool, yv_undef, yv_none, og_n, List.replicate, Option.bind, heapFree, onlyReads, List.set, List.getD, List.getElem?_cons_succ, List.getElem?_cons_zero, Option.getD, Option.map, decide_true, decide_false, if_true, if_false, Bool.false_eq_true, Bool.not_true, Bool.not_false, beq_self_eq_true, Bool.true_and, Bool.and_true, Bool.and_self, Bool.false_and, Bool.and_false, Bool.true_or, Bool.or_true, Bool.false_or, Bool.or_false, Bool.or_self, List.length_cons, List.length_nil, List.cons_append, List.nil_append, ite_self, List.getElem?_toArray, Option.bind_some, Option.bind_none, og_tt, og_ff, og_tf, og_ft, Int.reduceBNe, Int.reduceBEq, Int.reduceLT, Int.reduceLE, alive_run, hln, hlm, c, cm, k1, k2, chk_ne size l h0, bne_self_eq_false, List.getElem?_cons_succ, List.getElem?_cons_zero, Option.map]
end Go.Proofs.Ytlbkcdfllglddaa.fmt
