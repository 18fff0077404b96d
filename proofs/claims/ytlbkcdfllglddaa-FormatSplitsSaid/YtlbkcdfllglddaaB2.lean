/- Slices of pieces and of whole numbers, as they stand in the interpreter's heap and what follows. Conditions: in each statement. -/
import Derived.Test.YtlbkcdfllglddaaB1
import Derived.Test.YtlbkcdfllglddaaA2
import Derived.WideKeyArgs
import Derived.WalkKit
import Derived.ProofKit
import Derived.OpenShut
import Derived.ShutString
import Derived.ChangeOld
import Derived.Below
import Derived.SizedLaws
/-! Slices of pieces and of whole numbers, as they stand in the interpreter's heap. Conditions: in each statement. -/
namespace Go.Proofs.Ytlbkcdfllglddaa.fmt
open Go Go.Ab
set_option maxRecDepth 100000
set_option linter.unusedSimpArgs false
set_option linter.unusedVariables false
attribute [local simp] ox ou ko ky kn kd oy_seq oy_ret oy_exit oy_skip oy_cond oy_block oy_region oy_draw dr_eq dre_some stl_some st_nil st_op ot ov os_same sy_nil sy_op nxt_normal nxt_ret nxt_exit blk_exit blk_normal blk_ret reg_some cnd_true cnd_false opr_some grd_true grd_false fin_ret fin_normal finv_some Region.wanted opA callV aop evalL evalO putE binA bi_add bi_sub bi_mul bi_eql bi_neq bi_lss bi_leq bi_gtr bi_geq unA ofVal ofLeaf resultsA tupA AV.rfL AV.rf yielded_yv yv_bool yv_undef yv_none og_n List.replicate Option.bind heapFree onlyReads
/-- the heap has grown; what was there is as it was -/
def Ext (H H' : Heap) : Prop := H.next ≤ H'.next ∧ ∀ b, b < H.next → H'.get b = H.get b
theorem Ext.refl (H : Heap) : Ext H H := ⟨Nat.le_refl _, fun _ _ => rfl⟩
theorem Ext.trans {H H1 H2 : Heap} (h : Ext H H1) (k : Ext H1 H2) : Ext H H2 := ⟨Nat.le_trans h.1 k.1, fun b hb => by rw [k.2 b (Nat.lt_of_lt_of_le hb h.1), h.2 b hb]⟩
theorem Ext.push {H H1 : Heap} (h : Ext H H1) (x : Blk) : Ext H (H1.push x) :=
  ⟨by have := h.1; simp; omega, fun b hb => by have := h.1; rw [Heap.get_push, if_neg (by omega)]; exact h.2 b hb⟩
theorem Ext.set {H H1 : Heap} (h : Ext H H1) {c : Nat} (hc : H.next ≤ c) (x : Blk) : Ext H (H1.set c x) :=
  ⟨h.1, fun b hb => by rw [Heap.get_set, if_neg (by omega)]; exact h.2 b hb⟩
theorem Ext.kill {H H1 : Heap} (h : Ext H H1) {c : Nat} (hc : H.next ≤ c) : Ext H (H1.kill c) :=
  ⟨h.1, fun b hb => by rw [Heap.get_kill, if_neg (by omega)]; exact h.2 b hb⟩
abbrev Pi := Int × Int
def pcells (p : Pi) : List AV := [.int .i64 p.1, .int .i64 p.2]
/-- a slice that reads as a list of pieces -/
def Rd (H : Heap) (v : AV) (l : List Pi) : Prop :=
  (∃ a cap, v = .rsl a cap 2 (l.map fun p => .agg (pcells p)) ∧ (l ≠ [] → a.isSome = true)) ∨ (∃ b, v = .sl b 0 l.length 2 ∧ b < H.next ∧ H.get b = some (.cells 49 (l.flatMap pcells)))
theorem Rd.ext {H H' : Heap} {v : AV} {l : List Pi} (h : Rd H v l) (e : Ext H H') : Rd H' v l := by
  rcases h with h | ⟨b, h1, h2, h3⟩
  · exact .inl h
  · exact .inr ⟨b, h1, Nat.lt_of_lt_of_le h2 e.1, by rw [e.2 b h2]; exact h3⟩
theorem Rd.len {H : Heap} {v : AV} {l : List Pi} (h : Rd H v l) : lenTA Try.prog H (some 39) v = some l.length := by
  rcases h with ⟨a, cap, rfl, _⟩ | ⟨b, rfl, _, _⟩ <;> simp -implicitDefEqProofs [lenTA, Try.underlying39]
theorem flat_get : ∀ (l : List Pi) (i : Nat) (p : Pi), l[i]? = some p → (l.flatMap pcells)[i * 2]? = some (.int .i64 p.1) ∧ (l.flatMap pcells)[i * 2 + 1]? = some (.int .i64 p.2) ∧ i * 2 + 2 ≤ (l.flatMap pcells).length ∧ ((l.flatMap pcells).drop (i * 2)).take 2 = pcells p
  | [], i, p, h => by simp at h
  | q :: l, 0, p, h => by
    simp only [List.getElem?_cons_zero, Option.some.injEq] at h
    subst h
    simp [pcells]
  | q :: l, i + 1, p, h => by
    simp only [List.getElem?_cons_succ] at h
    obtain ⟨h1, h2, h3, h4⟩ := flat_get l i p h
    have e : (i + 1) * 2 = i * 2 + 2 := by omega
    simp only [List.flatMap_cons, e]
    have hl : (pcells q).length = 2 := rfl
    refine ⟨?_, ?_, ?_, ?_⟩
    · rw [List.getElem?_append_right (by omega), hl, show i * 2 + 2 - 2 = i * 2 by omega]; exact h1
    · rw [List.getElem?_append_right (by omega), hl, show i * 2 + 2 + 1 - 2 = i * 2 + 1 by omega]; exact h2
    · rw [List.length_append, hl]; omega
    · rw [List.drop_append, hl, show i * 2 + 2 - 2 = i * 2 by omega, List.drop_eq_nil_of_le (by omega), List.nil_append]; exact h4
theorem take1 {l : List AV} {i : Nat} {x : AV} (h : l[i]? = some x) : (l.drop i).take 1 = [x] := by
  rw [List.take_one, List.head?_drop, h]; rfl
/-- an element of a slice of pieces, and its parts -/
theorem Rd.at {H : Heap} {v : AV} {l : List Pi} (h : Rd H v l) {i : Nat} {p : Pi} (hi : l[i]? = some p) : ∃ q q0 q1, indexAddrA Try.prog 39 v (.int .i64 i) = some q ∧ loadA Try.prog H 49 q = some (.agg (pcells p)) ∧
    fieldAddrA Try.prog 49 q 0 = some q0 ∧ fieldAddrA Try.prog 49 q 1 = some q1 ∧ loadA Try.prog H 3 q0 = some (.int .i64 p.1) ∧ loadA Try.prog H 3 q1 = some (.int .i64 p.2) := by
  have hlt : i < l.length := (List.getElem?_eq_some_iff.1 hi).1
  have h0 : (0 : Int) ≤ (i : Int) := by omega
  rcases h with ⟨a, cap, rfl, ha⟩ | ⟨b, rfl, hb, hg⟩
  · have hne : l ≠ [] := by rintro rfl; simp at hi
    cases a with
    | none => exact absurd (ha hne) (by simp)
    | some a =>
      refine ⟨.rptr (a.add (i * 2)) (pcells p), .rptr ((a.add (i * 2)).add 0) (pcells p), .rptr ((a.add (i * 2)).add 1) [.int .i64 p.2], ?_, ?_, ?_, ?_, ?_, ?_⟩
      · simp -implicitDefEqProofs [indexAddrA, Try.underlying39, sz49, h0, List.getElem?_map, hi, AV.cells]
      · simp -implicitDefEqProofs [loadA, ag49, sz49, cellsAt, pcells]
      · simp -implicitDefEqProofs [fieldAddrA, Try.underlying49, sz3]
      · simp -implicitDefEqProofs [fieldAddrA, Try.underlying49, sz3, pcells]
      · simp -implicitDefEqProofs [loadA, ag3, sz3, cellsAt, pcells]
      · simp -implicitDefEqProofs [loadA, ag3, sz3, cellsAt, pcells]
  · obtain ⟨g1, g2, g3, g4⟩ := flat_get l i p hi
    have hlt2 : (i : Int) < (l.length : Int) := by omega
    refine ⟨.ptr b (i * 2), .ptr b (i * 2 + 0), .ptr b (i * 2 + 1), ?_, ?_, ?_, ?_, ?_, ?_⟩
    · simp -implicitDefEqProofs [indexAddrA, Try.underlying39, sz49, h0, hlt]
    · simp -implicitDefEqProofs only [loadA, ag49, sz49, cellsAt, hg, g3, g4, if_true, Option.map]
    · simp -implicitDefEqProofs [fieldAddrA, Try.underlying49, sz3]
    · simp -implicitDefEqProofs [fieldAddrA, Try.underlying49, sz3]
    · simp -implicitDefEqProofs only [loadA, ag3, sz3, cellsAt, hg, show i * 2 + 0 + 1 ≤ (l.flatMap pcells).length by omega, take1 g1, Nat.add_zero, if_true]
    · simp -implicitDefEqProofs only [loadA, ag3, sz3, cellsAt, hg, show i * 2 + 1 + 1 ≤ (l.flatMap pcells).length by omega, take1 g2, if_true]
/-- a slice that reads as a list of whole numbers -/
def Ints (H : Heap) (v : AV) (l : List Nat) : Prop :=
  (∃ sz, v = .rsl none 0 sz [] ∧ l = []) ∨ (∃ b, v = .sl b 0 l.length 1 ∧ b < H.next ∧ H.get b = some (.cells 3 (l.map fun n : Nat => AV.int .i64 (n : Int))))
theorem Ints.ext {H H' : Heap} {v : AV} {l : List Nat} (h : Ints H v l) (e : Ext H H') : Ints H' v l := by
  rcases h with h | ⟨b, h1, h2, h3⟩
  · exact .inl h
  · exact .inr ⟨b, h1, Nat.lt_of_lt_of_le h2 e.1, by rw [e.2 b h2]; exact h3⟩
theorem Ints.len {H : Heap} {v : AV} {l : List Nat} (h : Ints H v l) : lenTA Try.prog H (some 65) v = some l.length := by
  rcases h with ⟨sz, rfl, rfl⟩ | ⟨b, rfl, _, _⟩ <;> simp -implicitDefEqProofs [lenTA, Try.underlying65]
theorem Ints.at {H : Heap} {v : AV} {l : List Nat} (h : Ints H v l) {i p : Nat} (hi : l[i]? = some p) : ∃ q, indexAddrA Try.prog 65 v (.int .i64 i) = some q ∧ loadA Try.prog H 3 q = some (.int .i64 p) := by
  have hlt : i < l.length := (List.getElem?_eq_some_iff.1 hi).1
  rcases h with ⟨sz, rfl, rfl⟩ | ⟨b, rfl, hb, hg⟩
  · simp at hi
  · refine ⟨.ptr b i, ?_, ?_⟩
    · simp -implicitDefEqProofs [indexAddrA, Try.underlying65, sz3, hlt]
    · have : ((l.map fun n : Nat => AV.int .i64 (n : Int)).drop i).take 1 = [.int .i64 p] := take1 (by rw [List.getElem?_map, hi]; rfl)
      simp -implicitDefEqProofs only [loadA, ag3, sz3, cellsAt, hg, List.length_map, show i + 1 ≤ l.length by omega, this, if_true]
def cellO (x : Option Blk) (o : Nat) : Option AV := match x with | some (.cells _ c) => c[o]? | _ => none
theorem cellO_some {t : TypeId} {c : List AV} {o : Nat} : cellO (some (.cells t c)) o = c[o]? := id rfl
def cellP (x : Option Blk) (o : Nat) : Option AV := match x with | some (.cells _ c) => (match c[o]?, c[o + 1]? with | some a, some b => some (.agg [a, b]) | _, _ => none) | _ => none
theorem cellP_some {t : TypeId} {c : List AV} {o : Nat} : cellP (some (.cells t c)) o = (match c[o]?, c[o + 1]? with | some a, some b => some (.agg [a, b]) | _, _ => none) := id rfl
theorem ldO {P : Program} {T : TypeId} {H : Heap} {b o : Nat} (hs : sizeA P T = some 1) (ha : isAggA P T = some false) : loadA P H T (.ptr b o) = cellO (H.get b) o := by
  simp only [loadA, hs, ha, cellsAt, cellO]
  cases hb : H.get b with
  | none => rfl
  | some x =>
    cases x with
    | cells t c =>
      simp only
      by_cases h : o + 1 ≤ c.length
      · rw [if_pos h]
        have : c[o]? = some c[o] := List.getElem?_eq_getElem (by omega)
        rw [this, take1 this]
      · rw [if_neg h, List.getElem?_eq_none (by omega)]
    | _ => rfl
theorem ld3 {H : Heap} {b o : Nat} : loadA Try.prog H 3 (.ptr b o) = cellO (H.get b) o := ldO sz3 ag3
theorem ld22 {H : Heap} {b o : Nat} : loadA Try.prog H 22 (.ptr b o) = cellO (H.get b) o := ldO sz22 ag22
theorem ld39 {H : Heap} {b o : Nat} : loadA Try.prog H 39 (.ptr b o) = cellO (H.get b) o := ldO sz39 ag39
theorem ld49 {H : Heap} {b o : Nat} : loadA Try.prog H 49 (.ptr b o) = cellP (H.get b) o := by
  simp only [loadA, sz49, ag49, cellsAt, cellP]
  cases hb : H.get b with
  | none => rfl
  | some x =>
    cases x with
    | cells t c =>
      simp only
      by_cases h : o + 2 ≤ c.length
      · rw [if_pos h]
        have e1 : c[o]? = some c[o] := List.getElem?_eq_getElem (by omega)
        have e2 : c[o + 1]? = some c[o + 1] := List.getElem?_eq_getElem (by omega)
        have : (c.drop o).take 2 = [c[o], c[o + 1]] := by
          rw [List.drop_eq_getElem_cons (by omega), List.drop_eq_getElem_cons (by omega)]; rfl
        rw [e1, e2, this]; rfl
      · rw [if_neg h]
        by_cases h1 : o + 1 ≤ c.length
        · rw [List.getElem?_eq_getElem (by omega), List.getElem?_eq_none (by omega)]; rfl
        · rw [List.getElem?_eq_none (by omega)]; rfl
    | _ => rfl
theorem fa0 {b o : Nat} : fieldAddrA Try.prog 49 (.ptr b o) 0 = some (.ptr b (o + 0)) := by simp -implicitDefEqProofs [fieldAddrA, Try.underlying49, sz3]
theorem fa1 {b o : Nat} : fieldAddrA Try.prog 49 (.ptr b o) 1 = some (.ptr b (o + 1)) := by simp -implicitDefEqProofs [fieldAddrA, Try.underlying49, sz3]
theorem nx2 (n : Nat) : (n = n + 1 + 1) = False := eq_false (by omega)
theorem nx3 (n : Nat) : (n = n + 1 + 1 + 1) = False := eq_false (by omega)
theorem nx4 (n : Nat) : (n = n + 1 + 1 + 1 + 1) = False := eq_false (by omega)
theorem ones_run (x : Nat) (hx : x < 2 ^ 64) (lo : Nat) (H : Heap) : callA Try.prog (om Try.prog) lo 41 [.int .u64 x] H = some (.int .i64 (cnt 64 x), H) := by
  obtain ⟨y1, y2, y3, e1, e2, e3, b1, b2, b3, b4, b5, b6, e4⟩ := ones x hx
  have d1 : x / 2 < 2 ^ 64 := by omega
  have d2 : y1 / 4 < 2 ^ 64 := by omega
  have c1 : 6148914691236517205 < 2 ^ 64 := by decide
  have c2 : 3689348814741910323 < 2 ^ 64 := by decide
  have c3 : 1085102592571150095 < 2 ^ 64 := by decide
  have p1 : shiftA .shr .u64 (x : Int) 1 = some (.int .u64 ((x / 2 : Nat) : Int)) := u64_shr (y := 1) (by decide)
  have p2 : binIntA .and .u64 ((x / 2 : Nat) : Int) 6148914691236517205 = some (.int .u64 ((x / 2 &&& 6148914691236517205 : Nat) : Int)) := Go.Ab.u64_and (b := 6148914691236517205) d1 c1
  have p3 : binIntA .and .u64 (x : Int) 6148914691236517205 = some (.int .u64 ((x &&& 6148914691236517205 : Nat) : Int)) := Go.Ab.u64_and (b := 6148914691236517205) hx c1
  have p4 : IntKind.u64.wrap (((x / 2 &&& 6148914691236517205 : Nat) : Int) + ((x &&& 6148914691236517205 : Nat) : Int)) = (y1 : Int) := by
    rw [← Int.natCast_add, e1]; exact wrap_u64_lt b1
  have p5 : shiftA .shr .u64 (y1 : Int) 2 = some (.int .u64 ((y1 / 4 : Nat) : Int)) := u64_shr (y := 2) (by decide)
  have p6 : binIntA .and .u64 ((y1 / 4 : Nat) : Int) 3689348814741910323 = some (.int .u64 ((y1 / 4 &&& 3689348814741910323 : Nat) : Int)) := Go.Ab.u64_and (b := 3689348814741910323) d2 c2
  have p7 : binIntA .and .u64 (y1 : Int) 3689348814741910323 = some (.int .u64 ((y1 &&& 3689348814741910323 : Nat) : Int)) := Go.Ab.u64_and (b := 3689348814741910323) b1 c2
  have p8 : IntKind.u64.wrap (((y1 / 4 &&& 3689348814741910323 : Nat) : Int) + ((y1 &&& 3689348814741910323 : Nat) : Int)) = (y2 : Int) := by
    rw [← Int.natCast_add, e2]; exact wrap_u64_lt (by omega)
  have p9 : shiftA .shr .u64 (y2 : Int) 4 = some (.int .u64 ((y2 / 16 : Nat) : Int)) := u64_shr (y := 4) (by decide)
  have p10 : IntKind.u64.wrap (((y2 / 16 : Nat) : Int) + (y2 : Int)) = ((y2 / 16 + y2 : Nat) : Int) := by
    rw [← Int.natCast_add]; exact wrap_u64_lt (by omega)
  have p11 : binIntA .and .u64 ((y2 / 16 + y2 : Nat) : Int) 1085102592571150095 = some (.int .u64 (y3 : Int)) := by
    rw [← e3]; exact Go.Ab.u64_and (b := 1085102592571150095) (by omega) c3
  have p12 : shiftA .shr .u64 (y3 : Int) 8 = some (.int .u64 ((y3 / 256 : Nat) : Int)) := u64_shr (y := 8) (by decide)
  have p13 : IntKind.u64.wrap ((y3 : Int) + ((y3 / 256 : Nat) : Int)) = ((y3 + y3 / 256 : Nat) : Int) := by
    rw [← Int.natCast_add]; exact wrap_u64_lt (by omega)
  generalize y3 + y3 / 256 = t at *
  have p14 : shiftA .shr .u64 (t : Int) 16 = some (.int .u64 ((t / 65536 : Nat) : Int)) := u64_shr (y := 16) (by decide)
  have p15 : IntKind.u64.wrap ((t : Int) + ((t / 65536 : Nat) : Int)) = ((t + t / 65536 : Nat) : Int) := by
    rw [← Int.natCast_add]; exact wrap_u64_lt (by omega)
  generalize t + t / 65536 = u at *
  have p16 : shiftA .shr .u64 (u : Int) 32 = some (.int .u64 ((u / 4294967296 : Nat) : Int)) := u64_shr (y := 32) (by decide)
  have p17 : IntKind.u64.wrap ((u : Int) + ((u / 4294967296 : Nat) : Int)) = ((u + u / 4294967296 : Nat) : Int) := by
    rw [← Int.natCast_add]; exact wrap_u64_lt (by omega)
  generalize u + u / 4294967296 = v at *
  have p18 : IntKind.i64.wrap (v : Int) = (v : Int) := wi64_nat b6
  have p19 : binIntA .and .i64 (v : Int) 127 = some (.int .i64 (cnt 64 x)) := by
    have : (BitVec.ofInt 64 (v : Int) &&& BitVec.ofInt 64 127).toNat = v % 128 := by
      have e : BitVec.ofInt 64 127 = BitVec.ofNat 64 127 := by decide
      rw [ofInt_nat, e, BitVec.toNat_and, toNat_ofNat64 (by omega), toNat_ofNat64 (by decide)]
      exact Nat.and_two_pow_sub_one_eq_mod v 7
    show some (AV.int .i64 (IntKind.i64.wrap ((BitVec.ofInt 64 (v : Int) &&& BitVec.ofInt 64 127).toNat : Int))) = _
    rw [this, e4, wi64_nat (by omega)]
  rw [call_eq Try.func41 rfl rfl]
  simp -implicitDefEqProofs only [Try.f41]
  simp -implicitDefEqProofs only [ox, ou, ko, ky, kn, kd, oy_seq, oy_ret, oy_exit, oy_skip, oy_cond, oy_block, oy_region, oy_draw, dr_eq, dre_some, stl_some, st_nil, st_op, ot, ov, os_same, sy_nil, sy_op, nxt_normal, nxt_ret, nxt_exit, blk_exit, blk_normal, blk_ret, reg_some, cnd_true, cnd_false, opr_some, grd_true, grd_false, fin_ret, fin_normal, finv_some, Region.wanted, opA, callV, aop, evalL, evalO, putE, binA, bi_add, bi_sub, bi_mul, bi_eql, bi_neq, bi_lss, bi_leq, bi_gtr, bi_geq, unA, ofVal, ofLeaf, resultsA, tupA, AV.rfL, AV.rf, yielded_yv, yv_bool, yv_undef, yv_none, og_n, List.replicate, Option.bind, heapFree, onlyReads, List.set, List.getD, List.getElem?_cons_succ, List.getElem?_cons_zero, Option.getD, Option.map, decide_true, decide_false, if_true, if_false, Bool.false_eq_true, Bool.not_true, Bool.not_false, beq_self_eq_true, Bool.true_and, Bool.and_true, Bool.and_self, Bool.false_and, Bool.and_false, Bool.true_or, Bool.or_true, Bool.false_or, Bool.or_false, Bool.or_self, List.length_cons, List.length_nil, List.cons_append, List.nil_append, ite_self, List.getElem?_toArray, Option.bind_some, Option.bind_none, og_tt, og_ff, og_tf, og_ft, Int.reduceBNe, Int.reduceBEq, Int.reduceLT, Int.reduceLE, p1, p2, p3, p4, p5, p6, p7, p8, p9, p10, p11, p12, p13, p14, p15, p16, p17, p18, p19, convertA, Try.underlying22, Try.underlying3]
end Go.Proofs.Ytlbkcdfllglddaa.fmt
/-! Check of a layout, the program's and the reference's: the interpreter's runs. Conditions: in each statement. -/
namespace Go.Proofs.Ytlbkcdfllglddaa.fmt
open Go Go.Ab
set_option maxRecDepth 100000
set_option linter.unusedSimpArgs false
set_option linter.unusedVariables false
attribute [local simp] ox ou ko ky kn kd oy_seq oy_ret oy_exit oy_skip oy_cond oy_block oy_region oy_draw dr_eq dre_some stl_some st_nil st_op ot ov os_same sy_nil sy_op nxt_normal nxt_ret nxt_exit blk_exit blk_normal blk_ret reg_some cnd_true cnd_false opr_some grd_true grd_false fin_ret fin_normal finv_some Region.wanted opA callV aop evalL evalO putE binA bi_add bi_sub bi_mul bi_eql bi_neq bi_lss bi_leq bi_gtr bi_geq unA ofVal ofLeaf resultsA tupA AV.rfL AV.rf yielded_yv yv_bool yv_undef yv_none og_n List.replicate Option.bind heapFree onlyReads
theorem within_push2 (a b x : Int) (t : TypeId) (lo blk : Nat) (H : Heap) (hb : blk = H.next) :
    callA Try.prog (om Try.prog) lo 29 [.int .i64 a, .int .i64 b, .sl blk 0 1 1] (H.push (.cells t [.int .i64 x])) = some (.bool (decide (a ≤ x) && decide (x ≤ b)), H.push (.cells t [.int .i64 x])) := by
  subst hb; exact within_push a b x t lo H
def inb (size : Int) (p : Pi) : Bool := (decide (1 ≤ p.2) && decide (p.2 ≤ size)) && (decide (0 ≤ p.1) && decide (p.1 ≤ size - p.2))
def meet (q p : Pi) : Bool := decide (q.1 < p.1 + p.2) && decide (p.1 < q.1 + q.2)
def okFrom (size : Int) : List Pi → List Pi → Bool
  | _, [] => true
  | pre, p :: r => (inb size p && pre.all fun q => !meet q p) && okFrom size (pre ++ [p]) r
def chkE (size : Int) (l : List Pi) : Int := if (decide (1 ≤ size) && decide (size ≤ 64)) = true then (if 4 < l.length then 4 else if okFrom size [] l = true then 0 else 8) else 2
def toPi (p : Pc) : Pi := ((p.1 : Int), (p.2 : Int))
theorem inb_nat {size : Nat} {p : Pi} (h : inb size p = true) : ∃ q : Pc, p = toPi q ∧ 1 ≤ q.2 ∧ q.1 + q.2 ≤ size := by
  simp only [inb, Bool.and_eq_true, decide_eq_true_eq] at h
  refine ⟨(p.1.toNat, p.2.toNat), ?_, ?_, ?_⟩
  · unfold toPi; ext <;> simp <;> omega
  · simp; omega
  · simp; omega
theorem meet_iff {q p : Pc} : meet (toPi q) (toPi p) = true ↔ meets q p := by
  have e : meet (toPi q) (toPi p) = (decide ((q.1 : Int) < (p.1 : Int) + (p.2 : Int)) && decide ((p.1 : Int) < (q.1 : Int) + (q.2 : Int))) := rfl
  rw [e, Bool.and_eq_true, decide_eq_true_eq, decide_eq_true_eq]
  unfold meets
  omega
theorem no_meet {pre : List Pc} {p : Pc} : ((pre.map toPi).all fun q => !meet q (toPi p)) = true ↔ ¬ ∃ q ∈ pre, meets q p := by
  simp only [List.all_eq_true, List.mem_map, Bool.not_eq_true', forall_exists_index, and_imp, forall_apply_eq_imp_iff₂, not_exists, not_and]
  constructor
  · intro h q hq hm; have := h q hq; rw [meet_iff.2 hm] at this; cases this
  · intro h q hq
    cases e : meet (toPi q) (toPi p) with
    | false => rfl
    | true => exact absurd (meet_iff.1 e) (h q hq)
theorem okFrom_lay {size : Nat} : ∀ (r : List Pi) (pre : List Pc), Lay size pre → okFrom size (pre.map toPi) r = true → ∃ l : List Pc, r = l.map toPi ∧ Lay size (pre ++ l)
  | [], pre, h, _ => ⟨[], rfl, by simpa using h⟩
  | p :: r, pre, h, hk => by
    simp only [okFrom, Bool.and_eq_true] at hk
    obtain ⟨⟨h1, h2⟩, h3⟩ := hk
    obtain ⟨q, rfl, q1, q2⟩ := inb_nat h1
    have hl : Lay size (pre ++ [q]) := Lay.snoc.2 ⟨h, ⟨q1, q2⟩, no_meet.1 h2⟩
    rw [show pre.map toPi ++ [toPi q] = (pre ++ [q]).map toPi by simp] at h3
    obtain ⟨l, rfl, hl2⟩ := okFrom_lay r (pre ++ [q]) hl h3
    exact ⟨q :: l, by simp, by simpa using hl2⟩
theorem lay_okFrom {size : Nat} : ∀ (l pre : List Pc), Lay size (pre ++ l) → okFrom size (pre.map toPi) (l.map toPi) = true
  | [], _, _ => rfl
  | p :: l, pre, h => by
    have h' : Lay size ((pre ++ [p]) ++ l) := by simpa using h
    obtain ⟨a, b, c⟩ := Lay.snoc.1 h'.pre
    simp only [List.map_cons, okFrom, Bool.and_eq_true]
    refine ⟨⟨?_, no_meet.2 c⟩, ?_⟩
    · have e : inb size (toPi p) = ((decide ((1 : Int) ≤ (p.2 : Int)) && decide ((p.2 : Int) ≤ (size : Int))) && (decide ((0 : Int) ≤ (p.1 : Int)) && decide ((p.1 : Int) ≤ (size : Int) - (p.2 : Int)))) := rfl
      rw [e]
      simp only [Bool.and_eq_true, decide_eq_true_eq]
      omega
    · have := lay_okFrom l (pre ++ [p]) h'
      simpa using this
/-- where the loop of the program's Check ends -/
def ChkPost (size : Int) (ok : Bool) (H : Heap) (e : Option (Ex × St)) : Prop := ∃ (y1 y2 y3 y5 y6 y7 y8 y9 y10 y11 y12 y13 y14 y15 y16 y17 y18 y19 y20 y21 y22 y23 y24 y25 y26 y27 y28 y29 y30 y31 y32 y33 y34 y35 y36 y37 y38 y39 y40 y41 y42 y43 y44 y45 y46 y47 y48 y49 y50 y51 y52 : AV) (H' : Heap), Ext H H' ∧ e =
   some (if ok = true then (.exit 0, ⟨[.int .i64 size, y1, y2, y3, .int .i64 0, y5, y6, y7, y8, y9, y10, y11, y12, y13, y14, y15, y16, y17, y18, y19, y20, y21, y22, y23, y24, y25, y26, y27, y28, y29, y30, y31, y32, y33, y34, y35, y36, y37, y38, y39, y40, y41, y42, y43, y44, y45, y46, y47, y48, y49, y50, y51, y52], [], H'⟩) else (.ret, ⟨[.int .i64 size, y1, y2, y3, .int .i64 8, y5, y6, y7, y8, y9, y10, y11, y12, y13, y14, y15, y16, y17, y18, y19, y20, y21, y22, y23, y24, y25, y26, y27, y28, y29, y30, y31, y32, y33, y34, y35, y36, y37, y38, y39, y40, y41, y42, y43, y44, y45, y46, y47, y48, y49, y50, y51, y52], [], H'⟩))
theorem ChkPost.mono {size : Int} {ok : Bool} {H H1 : Heap} {e : Option (Ex × St)} (x : Ext H H1) (h : ChkPost size ok H1 e) : ChkPost size ok H e := by
  obtain ⟨y1, y2, y3, y5, y6, y7, y8, y9, y10, y11, y12, y13, y14, y15, y16, y17, y18, y19, y20, y21, y22, y23, y24, y25, y26, y27, y28, y29, y30, y31, y32, y33, y34, y35, y36, y37, y38, y39, y40, y41, y42, y43, y44, y45, y46, y47, y48, y49, y50, y51, y52, H', h1, h2⟩ := h
  exact ⟨y1, y2, y3, y5, y6, y7, y8, y9, y10, y11, y12, y13, y14, y15, y16, y17, y18, y19, y20, y21, y22, y23, y24, y25, y26, y27, y28, y29, y30, y31, y32, y33, y34, y35, y36, y37, y38, y39, y40, y41, y42, y43, y44, y45, y46, y47, y48, y49, y50, y51, y52, H', x.trans h1, h2⟩
set_option maxHeartbeats 4000000 in
theorem chk_loop (cx : Ctx) (lo : Nat) (size : Nat) (hs : size ≤ 64) (l : List Pi) (hlen : l.length ≤ 4) (v : AV) : ∀ (r : List Pi) (pre : List Pc) (k : Int) (tk : Nat) (H : Heap) {x1 x2 x3 x6 x7 x8 x9 x10 x11 x12 x13 x14 x15 x19 x20 x21 x22 x23 x24 x25 x26 x27 x28 x29 x30 x31 x32 x33 x34 x35 x36 x37 x38 x39 x40 x41 x42 x43 x44 x45 x46 x47 x48 x49 x50 x51 x52 : AV}, pre.map toPi ++ r = l → k = pre.length → tk = orP (places pre) → Lay size pre → Rd H v l → lo ≤ H.next →
    ChkPost size (okFrom size (pre.map toPi) r) H (om Try.prog cx lo (loopAt Try.f26 0) ⟨[.int .i64 size, x1, x2, x3, .int .i64 0, .int .u64 (tk : Int), x6, x7, x8, x9, x10, x11, x12, x13, x14, x15, v, .int .i64 l.length, .int .i64 k, x19, x20, x21, x22, x23, x24, x25, x26, x27, x28, x29, x30, x31, x32, x33, x34, x35, x36, x37, x38, x39, x40, x41, x42, x43, x44, x45, x46, x47, x48, x49, x50, x51, x52], [], H⟩) := by
  have d11 := dr26_11
  simp -implicitDefEqProofs +decide only [regAt, regIn, Option.getD, Try.f26, if_true, if_false] at d11
  simp -implicitDefEqProofs only [loopAt, loopIn, firstC, Try.f26, Option.getD, if_true]
  intro r
  induction r with
  | nil =>
    intro pre k tk H x1 x2 x3 x6 x7 x8 x9 x10 x11 x12 x13 x14 x15 x19 x20 x21 x22 x23 x24 x25 x26 x27 x28 x29 x30 x31 x32 x33 x34 x35 x36 x37 x38 x39 x40 x41 x42 x43 x44 x45 x46 x47 x48 x49 x50 x51 x52 hl hk ht hp hR hlo
    have e : l.length = pre.length := by rw [← hl]; simp
    have e1 : ¬ (k < (l.length : Int)) := by omega
    rw [oy_loop]
    simp -implicitDefEqProofs only [ox, ou, ko, ky, kn, kd, oy_seq, oy_ret, oy_exit, oy_skip, oy_cond, oy_block, oy_region, oy_draw, dr_eq, dre_some, stl_some, st_nil, st_op, ot, ov, os_same, sy_nil, sy_op, nxt_normal, nxt_ret, nxt_exit, blk_exit, blk_normal, blk_ret, reg_some, cnd_true, cnd_false, opr_some, grd_true, grd_false, fin_ret, fin_normal, finv_some, Region.wanted, opA, callV, aop, evalL, evalO, putE, binA, bi_add, bi_sub, bi_mul, bi_eql, bi_neq, bi_lss, bi_leq, bi_gtr, bi_geq, unA, ofVal, ofLeaf, resultsA, tupA, AV.rfL, AV.rf, yielded_yv, yv_bool, yv_undef, yv_none, og_n, List.replicate, Option.bind, heapFree, onlyReads, List.set, List.getD, List.getElem?_cons_succ, List.getElem?_cons_zero, Option.getD, Option.map, decide_true, decide_false, if_true, if_false, Bool.false_eq_true, Bool.not_true, Bool.not_false, beq_self_eq_true, Bool.true_and, Bool.and_true, Bool.and_self, Bool.false_and, Bool.and_false, Bool.true_or, Bool.or_true, Bool.false_or, Bool.or_false, Bool.or_self, List.length_cons, List.length_nil, List.cons_append, List.nil_append, ite_self, List.getElem?_toArray, Option.bind_some, Option.bind_none, og_tt, og_ff, og_tf, og_ft, Int.reduceBNe, Int.reduceBEq, Int.reduceLT, Int.reduceLE, e1, okFrom]
    exact ⟨_, _, _, _, _, _, _, _, _, _, _, _, _, _, _, _, _, _, _, _, _, _, _, _, _, _, _, _, _, _, _, _, _, _, _, _, _, _, _, _, _, _, _, _, _, _, _, _, _, _, _, H, Ext.refl H, rfl⟩
  | cons p r ih =>
    intro pre k tk H x1 x2 x3 x6 x7 x8 x9 x10 x11 x12 x13 x14 x15 x19 x20 x21 x22 x23 x24 x25 x26 x27 x28 x29 x30 x31 x32 x33 x34 x35 x36 x37 x38 x39 x40 x41 x42 x43 x44 x45 x46 x47 x48 x49 x50 x51 x52 hl hk ht hp hR hlo
    have hi : l[pre.length]? = some p := by rw [← hl]; simp
    obtain ⟨q, q0, q1, i1, i2, i3, i4, i5, i6⟩ := hR.at hi
    rw [← hk] at i1
    have e1 : k < (l.length : Int) := by have := (List.getElem?_eq_some_iff.1 hi).1; omega
    obtain ⟨pa, pl⟩ := p
    rw [oy_loop]
    cases hb1 : (decide (1 ≤ pl) && decide (pl ≤ (size : Int))) with
    | false =>
      have hok : okFrom size (pre.map toPi) ((pa, pl) :: r) = false := by simp only [okFrom, inb, hb1, Bool.false_and]
      simp -implicitDefEqProofs [e1, i1, i2, pcells, sz49, ze49, sz3, AV.cells, leafs, leafA, storeA, storeCellsA, Heap.get_push, Heap.get_set, nx2, nx3, nx4, setRange, hlo, fa0, fa1, ld3, ld49, cellO_some, cellP_some, evalParts, build1, within_push2, hb1, hok]
      refine ⟨_, _, _, _, _, _, _, _, _, _, _, _, _, _, _, _, _, _, _, _, _, _, _, _, _, _, _, _, _, _, _, _, _, _, _, _, _, _, _, _, _, _, _, _, _, _, _, _, _, _, _, _, ?_, rfl⟩
      repeat' first | exact Ext.refl _ | apply Ext.push | refine Ext.set ?_ (by simp) _
    | true =>
      have hb1' := hb1
      simp only [Bool.and_eq_true, decide_eq_true_eq] at hb1'
      have w1 : IntKind.i64.wrap ((size : Int) - pl) = (size : Int) - pl := wi64 (by omega) (by omega)
      cases hb2 : (decide (0 ≤ pa) && decide (pa ≤ (size : Int) - pl)) with
      | false =>
        have hok : okFrom size (pre.map toPi) ((pa, pl) :: r) = false := by simp only [okFrom, inb, hb1, hb2, Bool.and_false, Bool.false_and]
        simp -implicitDefEqProofs [e1, i1, i2, pcells, sz49, ze49, sz3, AV.cells, leafs, leafA, storeA, storeCellsA, Heap.get_push, Heap.get_set, nx2, nx3, nx4, setRange, hlo, fa0, fa1, ld3, ld49, cellO_some, cellP_some, evalParts, build1, within_push2, hb1, hb2, w1, hok]
        refine ⟨_, _, _, _, _, _, _, _, _, _, _, _, _, _, _, _, _, _, _, _, _, _, _, _, _, _, _, _, _, _, _, _, _, _, _, _, _, _, _, _, _, _, _, _, _, _, _, _, _, _, _, _, ?_, rfl⟩
        repeat' first | exact Ext.refl _ | apply Ext.push | refine Ext.set ?_ (by simp) _
      | true =>
        obtain ⟨p, hp1, hp2, hp3⟩ := inb_nat (size := size) (p := (pa, pl)) (by simp only [inb, hb1, hb2, Bool.and_self])
        obtain ⟨ea, el⟩ : pa = (p.1 : Int) ∧ pl = (p.2 : Int) := by
          have a := congrArg Prod.fst hp1; have b := congrArg Prod.snd hp1; exact ⟨a, b⟩
        have hm : (2 ^ p.2 - 1) * 2 ^ p.1 % 2 ^ 64 = pm p := by
          rw [pm]; apply Nat.mod_eq_of_lt
          have h1 : (2 ^ p.2 - 1) * 2 ^ p.1 < 2 ^ p.2 * 2 ^ p.1 := Nat.mul_lt_mul_of_pos_right (by have := Nat.two_pow_pos p.2; omega) (Nat.two_pow_pos _)
          rw [← Nat.pow_add] at h1
          exact Nat.lt_of_lt_of_le h1 (two_pow_le (by omega))
        have hmlt : pm p < 2 ^ 64 := by rw [← hm]; exact Nat.mod_lt _ (Nat.two_pow_pos _)
        have hmask := bmask_run p.2 hp2 (by omega)
        have hshl := u64_shl (a := 2 ^ p.2 - 1) (y := p.1) (by omega)
        rw [hm] at hshl
        have htl : tk < 2 ^ 64 := by rw [ht]; exact orP_lt fun i hi => by have := hp.lt i hi; omega
        have hand := Go.Ab.u64_and htl hmlt
        have hor := Go.Ab.u64_or htl hmlt
        have hmi := meets_iff (l := pre) (q := p) (fun q hq => (hp.1 q hq).1) hp2
        rw [← ht] at hmi
        have hnm := no_meet (pre := pre) (p := p)
        have hib : inb size (toPi p) = true := by rw [← hp1]; simp only [inb, hb1, hb2, Bool.and_self]
        have hpe : (pa, pl) = toPi p := hp1
        generalize 2 ^ p.2 - 1 = mk at hmask hshl
        rw [← el] at hmask
        rw [← ea] at hshl
        by_cases hmm : ∃ q ∈ pre, meets q p
        · have hne : (((tk &&& pm p : Nat) : Int) != 0) = true := by
            have := hmi.2 hmm
            simp only [bne_iff_ne, ne_eq]; omega
          have hok : okFrom size (pre.map toPi) ((pa, pl) :: r) = false := by
            have : ((pre.map toPi).all fun q => !meet q (toPi p)) = false := by
              cases e : ((pre.map toPi).all fun q => !meet q (toPi p)) with
              | false => rfl
              | true => exact absurd hmm (hnm.1 e)
            rw [hpe]
            simp only [okFrom, this, Bool.and_false, Bool.false_and]
          simp -implicitDefEqProofs [e1, i1, i2, pcells, sz49, ze49, sz3, AV.cells, leafs, leafA, storeA, storeCellsA, Heap.get_push, Heap.get_set, nx2, nx3, nx4, setRange, hlo, fa0, fa1, ld3, ld49, cellO_some, cellP_some, evalParts, build1, within_push2, hb1, hb2, w1, d11, hmask, hshl, hand, hne, hok]
          refine ⟨_, _, _, _, _, _, _, _, _, _, _, _, _, _, _, _, _, _, _, _, _, _, _, _, _, _, _, _, _, _, _, _, _, _, _, _, _, _, _, _, _, _, _, _, _, _, _, _, _, _, _, _, ?_, rfl⟩
          repeat' first | exact Ext.refl _ | apply Ext.push | refine Ext.set ?_ (by simp) _
        · have hz : (((tk &&& pm p : Nat) : Int) != 0) = false := by
            by_cases e : tk &&& pm p = 0
            · rw [e]; rfl
            · exact absurd (hmi.1 e) hmm
          have hlay : Lay size (pre ++ [p]) := Lay.snoc.2 ⟨hp, ⟨hp2, hp3⟩, hmm⟩
          have hok : okFrom size (pre.map toPi) ((pa, pl) :: r) = okFrom size ((pre ++ [p]).map toPi) r := by
            have := hnm.2 hmm
            rw [hpe]
            simp only [okFrom, this, hib, Bool.and_self, Bool.true_and, List.map_append, List.map_cons, List.map_nil]
          have w2 : IntKind.i64.wrap (k + 1) = k + 1 := wi64 (by omega) (by omega)
          rw [hok]
          generalize hob : okFrom size ((pre ++ [p]).map toPi) r = ob
          generalize hpm : pm p = pmv at *
          simp -implicitDefEqProofs [e1, i1, i2, pcells, sz49, ze49, sz3, AV.cells, leafs, leafA, storeA, storeCellsA, Heap.get_push, Heap.get_set, nx2, nx3, nx4, setRange, hlo, fa0, fa1, ld3, ld49, cellO_some, cellP_some, evalParts, build1, within_push2, hb1, hb2, w1, d11, hmask, hshl, hand, hz, hor, w2]
          rw [← hob]
          refine ChkPost.mono ?_ (ih (pre ++ [p]) (k + 1) (tk ||| pmv) _ (by rw [← hl, hp1]; simp) (by rw [hk]; simp) (by rw [orP_places, ht, hpm]) hlay (hR.ext ?_) ?_)
          · repeat' first | exact Ext.refl _ | apply Ext.push | refine Ext.set ?_ (by simp) _
          · repeat' first | exact Ext.refl _ | apply Ext.push | refine Ext.set ?_ (by simp) _
          · simp; omega
end Go.Proofs.Ytlbkcdfllglddaa.fmt
/-! Check of a layout: the calls, the program's and the reference's. Conditions: in each statement. -/
namespace Go.Proofs.Ytlbkcdfllglddaa.fmt
open Go Go.Ab
set_option maxRecDepth 100000
set_option linter.unusedSimpArgs false
set_option linter.unusedVariables false
attribute [local simp] ox ou ko ky kn kd oy_seq oy_ret oy_exit oy_skip oy_cond oy_block oy_region oy_draw dr_eq dre_some stl_some st_nil st_op ot ov os_same sy_nil sy_op nxt_normal nxt_ret nxt_exit blk_exit blk_normal blk_ret reg_some cnd_true cnd_false opr_some grd_true grd_false fin_ret fin_normal finv_some Region.wanted opA callV aop evalL evalO putE binA bi_add bi_sub bi_mul bi_eql bi_neq bi_lss bi_leq bi_gtr bi_geq unA ofVal ofLeaf resultsA tupA AV.rfL AV.rf yielded_yv yv_bool yv_undef yv_none og_n List.replicate Option.bind heapFree onlyReads
theorem if_out {own : Bool} {H H1 : Heap} {r : AV} (x : Ext H H1) : ∃ H', (if own = true then some (r, H) else some (r, H1)) = some (r, H') ∧ Ext H H' := by
  cases own with
  | true => exact ⟨H, rfl, Ext.refl H⟩
  | false => exact ⟨H1, rfl, x⟩
theorem lo_le {own : Bool} {lo : Nat} {H : Heap} (h : lo ≤ H.next) : (if own = true then H.next else lo) ≤ H.next := by split <;> omega
set_option maxHeartbeats 4000000 in
theorem check_run (size : Int) (l : List Pi) (v : AV) (lo : Nat) (H : Heap) (hR : Rd H v l) (hlo : lo ≤ H.next) (hl : l.length ≤ 1000) :
    ∃ H', callA Try.prog (om Try.prog) lo 26 [.int .i64 size, v] H = some (.int .i64 (chkE size l), H') ∧ Ext H H' := by
  rw [call_eq Try.func26 rfl rfl]
  have hlo' := lo_le (own := AV.rfL [.int .i64 size, v]) hlo
  generalize (if AV.rfL [.int .i64 size, v] = true then H.next else lo) = lo' at hlo' ⊢
  generalize AV.rfL [.int .i64 size, v] = own
  simp -implicitDefEqProofs only [Try.f26]
  unfold chkE
  cases hb : (decide (1 ≤ size) && decide (size ≤ 64)) with
  | false =>
    simp -implicitDefEqProofs only [ox, ou, ko, ky, kn, kd, oy_seq, oy_ret, oy_exit, oy_skip, oy_cond, oy_block, oy_region, oy_draw, dr_eq, dre_some, stl_some, st_nil, st_op, ot, ov, os_same, sy_nil, sy_op, nxt_normal, nxt_ret, nxt_exit, blk_exit, blk_normal, blk_ret, reg_some, cnd_true, cnd_false, opr_some, grd_true, grd_false, fin_ret, fin_normal, finv_some, Region.wanted, opA, callV, aop, evalL, evalO, putE, binA, bi_add, bi_sub, bi_mul, bi_eql, bi_neq, bi_lss, bi_leq, bi_gtr, bi_geq, unA, ofVal, ofLeaf, resultsA, tupA, AV.rfL, AV.rf, yielded_yv, yv_bool, yv_undef, yv_none, og_n, List.replicate, Option.bind, heapFree, onlyReads, List.set, List.getD, List.getElem?_cons_succ, List.getElem?_cons_zero, Option.getD, Option.map, decide_true, decide_false, if_true, if_false, Bool.false_eq_true, Bool.not_true, Bool.not_false, beq_self_eq_true, Bool.true_and, Bool.and_true, Bool.and_self, Bool.false_and, Bool.and_false, Bool.true_or, Bool.or_true, Bool.false_or, Bool.or_false, Bool.or_self, List.length_cons, List.length_nil, List.cons_append, List.nil_append, ite_self, List.getElem?_toArray, Option.bind_some, Option.bind_none, og_tt, og_ff, og_tf, og_ft, Int.reduceBNe, Int.reduceBEq, Int.reduceLT, Int.reduceLE, evalParts, build1, within_push2, hb]
    exact if_out ((Ext.refl H).push _)
  | true =>
    have hb0 := hb
    simp only [Bool.and_eq_true, decide_eq_true_eq] at hb0
    obtain ⟨n, rfl⟩ := Int.eq_ofNat_of_zero_le (show 0 ≤ size by omega)
    have L := fun cx lo (h1 h2) H => @chk_loop cx lo n h1 l h2 v l [] 0 0 H
    simp -implicitDefEqProofs only [loopAt, loopIn, firstC, Try.f26, Option.getD, if_true] at L
    generalize hsz : (n : Int) = size at *
    have hln := (hR.ext ((Ext.refl H).push (.cells 3 [.int .i64 size]))).len
    have hb' := hb
    simp only [Bool.and_eq_true, decide_eq_true_eq] at hb'
    by_cases h4 : 4 < l.length
    · have c4 : (4 : Int) < (l.length : Int) := by omega
      simp -implicitDefEqProofs only [ox, ou, ko, ky, kn, kd, oy_seq, oy_ret, oy_exit, oy_skip, oy_cond, oy_block, oy_region, oy_draw, dr_eq, dre_some, stl_some, st_nil, st_op, ot, ov, os_same, sy_nil, sy_op, nxt_normal, nxt_ret, nxt_exit, blk_exit, blk_normal, blk_ret, reg_some, cnd_true, cnd_false, opr_some, grd_true, grd_false, fin_ret, fin_normal, finv_some, Region.wanted, opA, callV, aop, evalL, evalO, putE, binA, bi_add, bi_sub, bi_mul, bi_eql, bi_neq, bi_lss, bi_leq, bi_gtr, bi_geq, unA, ofVal, ofLeaf, resultsA, tupA, AV.rfL, AV.rf, yielded_yv, yv_bool, yv_undef, yv_none, og_n, List.replicate, Option.bind, heapFree, onlyReads, List.set, List.getD, List.getElem?_cons_succ, List.getElem?_cons_zero, Option.getD, Option.map, decide_true, decide_false, if_true, if_false, Bool.false_eq_true, Bool.not_true, Bool.not_false, beq_self_eq_true, Bool.true_and, Bool.and_true, Bool.and_self, Bool.false_and, Bool.and_false, Bool.true_or, Bool.or_true, Bool.false_or, Bool.or_false, Bool.or_self, List.length_cons, List.length_nil, List.cons_append, List.nil_append, ite_self, List.getElem?_toArray, Option.bind_some, Option.bind_none, og_tt, og_ff, og_tf, og_ft, Int.reduceBNe, Int.reduceBEq, Int.reduceLT, Int.reduceLE, evalParts, build1, within_push2, hb, hln, h4, c4, Option.map]
      exact if_out ((Ext.refl H).push _)
    · have c4 : ¬ ((4 : Int) < (l.length : Int)) := by omega
      simp -implicitDefEqProofs only [ox, ou, ko, ky, kn, kd, oy_seq, oy_ret, oy_exit, oy_skip, oy_cond, oy_block, oy_region, oy_draw, dr_eq, dre_some, stl_some, st_nil, st_op, ot, ov, os_same, sy_nil, sy_op, nxt_normal, nxt_ret, nxt_exit, blk_exit, blk_normal, blk_ret, reg_some, cnd_true, cnd_false, opr_some, grd_true, grd_false, fin_ret, fin_normal, finv_some, Region.wanted, opA, callV, aop, evalL, evalO, putE, binA, bi_add, bi_sub, bi_mul, bi_eql, bi_neq, bi_lss, bi_leq, bi_gtr, bi_geq, unA, ofVal, ofLeaf, resultsA, tupA, AV.rfL, AV.rf, yielded_yv, yv_bool, yv_undef, yv_none, og_n, List.replicate, Option.bind, heapFree, onlyReads, List.set, List.getD, List.getElem?_cons_succ, List.getElem?_cons_zero, Option.getD, Option.map, decide_true, decide_false, if_true, if_false, Bool.false_eq_true, Bool.not_true, Bool.not_false, beq_self_eq_true, Bool.true_and, Bool.and_true, Bool.and_self, Bool.false_and, Bool.and_false, Bool.true_or, Bool.or_true, Bool.false_or, Bool.or_false, Bool.or_self, List.length_cons, List.length_nil, List.cons_append, List.nil_append, ite_self, List.getElem?_toArray, Option.bind_some, Option.bind_none, og_tt, og_ff, og_tf, og_ft, Int.reduceBNe, Int.reduceBEq, Int.reduceLT, Int.reduceLE, evalParts, build1, within_push2, hb, hln, h4, c4, Option.map]
      generalize hr : om Try.prog _ _ (Code.loop _) _ = r
      have P : ChkPost size (okFrom size [] l) (H.push (.cells 3 [.int .i64 size])) r := by
        rw [← hr]
        exact L _ _ (by omega) (by omega) _ (by simp) (by simp) (by simp [places, orP]) (Lay.nil _) (hR.ext ((Ext.refl H).push _)) (by simp; omega)
      obtain ⟨y1, y2, y3, y5, y6, y7, y8, y9, y10, y11, y12, y13, y14, y15, y16, y17, y18, y19, y20, y21, y22, y23, y24, y25, y26, y27, y28, y29, y30, y31, y32, y33, y34, y35, y36, y37, y38, y39, y40, y41, y42, y43, y44, y45, y46, y47, y48, y49, y50, y51, y52, H', x, rfl⟩ := P
      have x' : Ext H H' := ((Ext.refl H).push _).trans x
      clear hr L
      cases hok : okFrom size [] l with
      | true =>
        simp -implicitDefEqProofs only [ox, ou, ko, ky, kn, kd, oy_seq, oy_ret, oy_exit, oy_skip, oy_cond, oy_block, oy_region, oy_draw, dr_eq, dre_some, stl_some, st_nil, st_op, ot, ov, os_same, sy_nil, sy_op, nxt_normal, nxt_ret, nxt_exit, blk_exit, blk_normal, blk_ret, reg_some, cnd_true, cnd_false, opr_some, grd_true, grd_false, fin_ret, fin_normal, finv_some, Region.wanted, opA, callV, aop, evalL, evalO, putE, binA, bi_add, bi_sub, bi_mul, bi_eql, bi_neq, bi_lss, bi_leq, bi_gtr, bi_geq, unA, ofVal, ofLeaf, resultsA, tupA, AV.rfL, AV.rf, yielded_yv, yv_bool, yv_undef, yv_none, og_n, List.replicate, Option.bind, heapFree, onlyReads, List.set, List.getD, List.getElem?_cons_succ, List.getElem?_cons_zero, Option.getD, Option.map, decide_true, decide_false, if_true, if_false, Bool.false_eq_true, Bool.not_true, Bool.not_false, beq_self_eq_true, Bool.true_and, Bool.and_true, Bool.and_self, Bool.false_and, Bool.and_false, Bool.true_or, Bool.or_true, Bool.false_or, Bool.or_false, Bool.or_self, List.length_cons, List.length_nil, List.cons_append, List.nil_append, ite_self, List.getElem?_toArray, Option.bind_some, Option.bind_none, og_tt, og_ff, og_tf, og_ft, Int.reduceBNe, Int.reduceBEq, Int.reduceLT, Int.reduceLE]
        exact if_out x'
      | false =>
        simp -implicitDefEqProofs only [ox, ou, ko, ky, kn, kd, oy_seq, oy_ret, oy_exit, oy_skip, oy_cond, oy_block, oy_region, oy_draw, dr_eq, dre_some, stl_some, st_nil, st_op, ot, ov, os_same, sy_nil, sy_op, nxt_normal, nxt_ret, nxt_exit, blk_exit, blk_normal, blk_ret, reg_some, cnd_true, cnd_false, opr_some, grd_true, grd_false, fin_ret, fin_normal, finv_some, Region.wanted, opA, callV, aop, evalL, evalO, putE, binA, bi_add, bi_sub, bi_mul, bi_eql, bi_neq, bi_lss, bi_leq, bi_gtr, bi_geq, unA, ofVal, ofLeaf, resultsA, tupA, AV.rfL, AV.rf, yielded_yv, yv_bool, yv_undef, yv_none, og_n, List.replicate, Option.bind, heapFree, onlyReads, List.set, List.getD, List.getElem?_cons_succ, List.getElem?_cons_zero, Option.getD, Option.map, decide_true, decide_false, if_true, if_false, Bool.false_eq_true, Bool.not_true, Bool.not_false, beq_self_eq_true, Bool.true_and, Bool.and_true, Bool.and_self, Bool.false_and, Bool.and_false, Bool.true_or, Bool.or_true, Bool.false_or, Bool.or_false, Bool.or_self, List.length_cons, List.length_nil, List.cons_append, List.nil_append, ite_self, List.getElem?_toArray, Option.bind_some, Option.bind_none, og_tt, og_ff, og_tf, og_ft, Int.reduceBNe, Int.reduceBEq, Int.reduceLT, Int.reduceLE]
        exact if_out x'
end Go.Proofs.Ytlbkcdfllglddaa.fmt
/-! Check of a layout, the reference's: the interpreter's runs. Conditions: in each statement. -/
namespace Go.Proofs.Ytlbkcdfllglddaa.fmt
open Go Go.Ab
set_option maxRecDepth 100000
set_option linter.unusedSimpArgs false
set_option linter.unusedVariables false
attribute [local simp] ox ou ko ky kn kd oy_seq oy_ret oy_exit oy_skip oy_cond oy_block oy_region oy_draw dr_eq dre_some stl_some st_nil st_op ot ov os_same sy_nil sy_op nxt_normal nxt_ret nxt_exit blk_exit blk_normal blk_ret reg_some cnd_true cnd_false opr_some grd_true grd_false fin_ret fin_normal finv_some Region.wanted opA callV aop evalL evalO putE binA bi_add bi_sub bi_mul bi_eql bi_neq bi_lss bi_leq bi_gtr bi_geq unA ofVal ofLeaf resultsA tupA AV.rfL AV.rf yielded_yv yv_bool yv_undef yv_none og_n List.replicate Option.bind heapFree onlyReads
theorem inb_bd {size : Int} (hs : size ≤ 64) {p : Pi} (h : inb size p = true) : 0 ≤ p.1 ∧ p.1 ≤ 64 ∧ 1 ≤ p.2 ∧ p.2 ≤ 64 := by
  simp only [inb, Bool.and_eq_true, decide_eq_true_eq] at h
  omega
/-- how the inner loop of the reference's Check ends -/
def In2 (size : Int) (v : AV) (i : Int) (H : Heap) (bad : Bool) (e : Option (Ex × St)) : Prop := ∃ (y2 y3 y6 y7 y8 y9 y10 y11 y12 y13 y14 y15 y16 y17 y18 y19 y20 y21 y22 y23 y24 y25 y26 y27 y28 y29 y30 y31 y32 y33 y34 y35 y36 y37 y38 y39 y40 y41 y42 y43 y44 y45 y46 y47 y48 y49 y50 y51 y52 y53 y54 y55 y56 y57 y58 y59 y60 y61 y62 y63 y64 y65 y66 y67 y68 y69 y70 y71 y72 y73 y74 y75 y76 y77 y78 y79 y80 y81 y82 y83 : AV), e =
   some (if bad = true then (.ret, ⟨[.int .i64 size, v, y2, y3, .int .i64 8, .int .i64 i, y6, y7, y8, y9, y10, y11, y12, y13, y14, y15, y16, y17, y18, y19, y20, y21, y22, y23, y24, y25, y26, y27, y28, y29, y30, y31, y32, y33, y34, y35, y36, y37, y38, y39, y40, y41, y42, y43, y44, y45, y46, y47, y48, y49, y50, y51, y52, y53, y54, y55, y56, y57, y58, y59, y60, y61, y62, y63, y64, y65, y66, y67, y68, y69, y70, y71, y72, y73, y74, y75, y76, y77, y78, y79, y80, y81, y82, y83], [], H⟩) else (.exit 2, ⟨[.int .i64 size, v, y2, y3, .int .i64 0, .int .i64 i, y6, y7, y8, y9, y10, y11, y12, y13, y14, y15, y16, y17, y18, y19, y20, y21, y22, y23, y24, y25, y26, y27, y28, y29, y30, y31, y32, y33, y34, y35, y36, y37, y38, y39, y40, y41, y42, y43, y44, y45, y46, y47, y48, y49, y50, y51, y52, y53, y54, y55, y56, y57, y58, y59, y60, y61, y62, y63, y64, y65, y66, y67, y68, y69, y70, y71, y72, y73, y74, y75, y76, y77, y78, y79, y80, y81, y82, y83], [], H⟩))
set_option maxHeartbeats 4000000 in
theorem in2_loop (cx : Ctx) (lo : Nat) (H : Heap) (size : Int) (hs : size ≤ 64) (l : List Pi) (hlen : l.length ≤ 4) (v : AV) (hR : Rd H v l) (p : Pi) (i : Nat) (hi : l[i]? = some p) (hp : inb size p = true) :
    ∀ (m k : Nat) {x2 x3 x7 x8 x9 x10 x11 x12 x13 x14 x15 x16 x17 x18 x19 x20 x21 x22 x23 x24 x25 x26 x27 x28 x29 x30 x31 x32 x33 x34 x35 x36 x37 x38 x39 x40 x41 x42 x43 x44 x45 x46 x47 x48 x49 x50 x51 x52 x53 x54 x55 x56 x57 x58 x59 x60 x61 x62 x63 x64 x65 x66 x67 x68 x69 x70 x71 x72 x73 x74 x75 x76 x77 x78 x79 x80 x81 x82 x83 : AV}, k + m = i → (∀ q ∈ l.take i, inb size q = true) →
    In2 size v i H (((l.take i).drop k).any fun q => meet q p) (om Try.prog cx lo (loopAt Try.f27 2) ⟨[.int .i64 size, v, x2, x3, .int .i64 0, .int .i64 i, .int .i64 k, x7, x8, x9, x10, x11, x12, x13, x14, x15, x16, x17, x18, x19, x20, x21, x22, x23, x24, x25, x26, x27, x28, x29, x30, x31, x32, x33, x34, x35, x36, x37, x38, x39, x40, x41, x42, x43, x44, x45, x46, x47, x48, x49, x50, x51, x52, x53, x54, x55, x56, x57, x58, x59, x60, x61, x62, x63, x64, x65, x66, x67, x68, x69, x70, x71, x72, x73, x74, x75, x76, x77, x78, x79, x80, x81, x82, x83], [], H⟩) := by
  have d13 := dr27_13
  simp -implicitDefEqProofs +decide only [regAt, regIn, Option.getD, Try.f27, if_true, if_false] at d13
  simp -implicitDefEqProofs +decide only [loopAt, loopIn, firstC, Try.f27, Option.getD, if_true, if_false]
  have hil := (List.getElem?_eq_some_iff.1 hi).1
  obtain ⟨q, q0, q1, i1, i2, i3, i4, i5, i6⟩ := hR.at hi
  obtain ⟨b1, b2, b3, b4⟩ := inb_bd hs hp
  intro m
  induction m with
  | zero =>
    intro k x2 x3 x7 x8 x9 x10 x11 x12 x13 x14 x15 x16 x17 x18 x19 x20 x21 x22 x23 x24 x25 x26 x27 x28 x29 x30 x31 x32 x33 x34 x35 x36 x37 x38 x39 x40 x41 x42 x43 x44 x45 x46 x47 x48 x49 x50 x51 x52 x53 x54 x55 x56 x57 x58 x59 x60 x61 x62 x63 x64 x65 x66 x67 x68 x69 x70 x71 x72 x73 x74 x75 x76 x77 x78 x79 x80 x81 x82 x83 hk hall
    obtain rfl : k = i := by omega
    have e : (l.take k).drop k = [] := List.drop_eq_nil_of_le (by simp; omega)
    rw [e, oy_loop]
    simp -implicitDefEqProofs only [ox, ou, ko, ky, kn, kd, oy_seq, oy_ret, oy_exit, oy_skip, oy_cond, oy_block, oy_region, oy_draw, dr_eq, dre_some, stl_some, st_nil, st_op, ot, ov, os_same, sy_nil, sy_op, nxt_normal, nxt_ret, nxt_exit, blk_exit, blk_normal, blk_ret, reg_some, cnd_true, cnd_false, opr_some, grd_true, grd_false, fin_ret, fin_normal, finv_some, Region.wanted, opA, callV, aop, evalL, evalO, putE, binA, bi_add, bi_sub, bi_mul, bi_eql, bi_neq, bi_lss, bi_leq, bi_gtr, bi_geq, unA, ofVal, ofLeaf, resultsA, tupA, AV.rfL, AV.rf, yielded_yv, yv_bool, yv_undef, yv_none, og_n, List.replicate, Option.bind, heapFree, onlyReads, List.set, List.getD, List.getElem?_cons_succ, List.getElem?_cons_zero, Option.getD, Option.map, decide_true, decide_false, if_true, if_false, Bool.false_eq_true, Bool.not_true, Bool.not_false, beq_self_eq_true, Bool.true_and, Bool.and_true, Bool.and_self, Bool.false_and, Bool.and_false, Bool.true_or, Bool.or_true, Bool.false_or, Bool.or_false, Bool.or_self, List.length_cons, List.length_nil, List.cons_append, List.nil_append, ite_self, List.getElem?_toArray, Option.bind_some, Option.bind_none, og_tt, og_ff, og_tf, og_ft, Int.reduceBNe, Int.reduceBEq, Int.reduceLT, Int.reduceLE, Int.lt_irrefl]
    exact ⟨_, _, _, _, _, _, _, _, _, _, _, _, _, _, _, _, _, _, _, _, _, _, _, _, _, _, _, _, _, _, _, _, _, _, _, _, _, _, _, _, _, _, _, _, _, _, _, _, _, _, _, _, _, _, _, _, _, _, _, _, _, _, _, _, _, _, _, _, _, _, _, _, _, _, _, _, _, _, _, _, rfl⟩
  | succ m ih =>
    intro k x2 x3 x7 x8 x9 x10 x11 x12 x13 x14 x15 x16 x17 x18 x19 x20 x21 x22 x23 x24 x25 x26 x27 x28 x29 x30 x31 x32 x33 x34 x35 x36 x37 x38 x39 x40 x41 x42 x43 x44 x45 x46 x47 x48 x49 x50 x51 x52 x53 x54 x55 x56 x57 x58 x59 x60 x61 x62 x63 x64 x65 x66 x67 x68 x69 x70 x71 x72 x73 x74 x75 x76 x77 x78 x79 x80 x81 x82 x83 hk hall
    have e1 : (k : Int) < (i : Int) := by omega
    obtain ⟨u, hu⟩ : ∃ u, l[k]? = some u := ⟨l[k]'(by omega), List.getElem?_eq_getElem (by omega)⟩
    have hut : (l.take i)[k]? = some u := by rw [List.getElem?_take, if_pos (by omega)]; exact hu
    have hum : u ∈ l.take i := List.mem_of_getElem? hut
    have hed : (l.take i).drop k = u :: (l.take i).drop (k + 1) := by
      have hkl : k < (l.take i).length := (List.getElem?_eq_some_iff.1 hut).1
      rw [List.drop_eq_getElem_cons hkl]
      congr 1
      have := (List.getElem?_eq_some_iff.1 hut).2
      exact this
    obtain ⟨r, r0, r1, j1, j2, j3, j4, j5, j6⟩ := hR.at hu
    obtain ⟨a1, a2, a3, a4⟩ := inb_bd hs (hall u hum)
    have w1 : IntKind.i64.wrap (p.1 + p.2) = p.1 + p.2 := wi64 (by omega) (by omega)
    have w2 : IntKind.i64.wrap (u.1 + u.2) = u.1 + u.2 := wi64 (by omega) (by omega)
    have w3 : IntKind.i64.wrap ((k : Int) + 1) = ((k + 1 : Nat) : Int) := by rw [wi64 (by omega) (by omega)]; push_cast; rfl
    rw [hed, List.any_cons, oy_loop]
    generalize hm : meet u p = mb
    unfold meet at hm
    by_cases c1 : u.1 < p.1 + p.2
    · simp only [c1, decide_true, Bool.true_and] at hm
      cases mb with
      | true =>
        simp -implicitDefEqProofs only [ox, ou, ko, ky, kn, kd, oy_seq, oy_ret, oy_exit, oy_skip, oy_cond, oy_block, oy_region, oy_draw, dr_eq, dre_some, stl_some, st_nil, st_op, ot, ov, os_same, sy_nil, sy_op, nxt_normal, nxt_ret, nxt_exit, blk_exit, blk_normal, blk_ret, reg_some, cnd_true, cnd_false, opr_some, grd_true, grd_false, fin_ret, fin_normal, finv_some, Region.wanted, opA, callV, aop, evalL, evalO, putE, binA, bi_add, bi_sub, bi_mul, bi_eql, bi_neq, bi_lss, bi_leq, bi_gtr, bi_geq, unA, ofVal, ofLeaf, resultsA, tupA, AV.rfL, AV.rf, yielded_yv, yv_bool, yv_undef, yv_none, og_n, List.replicate, Option.bind, heapFree, onlyReads, List.set, List.getD, List.getElem?_cons_succ, List.getElem?_cons_zero, Option.getD, Option.map, decide_true, decide_false, if_true, if_false, Bool.false_eq_true, Bool.not_true, Bool.not_false, beq_self_eq_true, Bool.true_and, Bool.and_true, Bool.and_self, Bool.false_and, Bool.and_false, Bool.true_or, Bool.or_true, Bool.false_or, Bool.or_false, Bool.or_self, List.length_cons, List.length_nil, List.cons_append, List.nil_append, ite_self, List.getElem?_toArray, Option.bind_some, Option.bind_none, og_tt, og_ff, og_tf, og_ft, Int.reduceBNe, Int.reduceBEq, Int.reduceLT, Int.reduceLE, e1, i1, i3, i4, i5, i6, j1, j3, j4, j5, j6, w1, w2, c1, hm, d13, List.take, List.drop, Option.map]
        exact ⟨_, _, _, _, _, _, _, _, _, _, _, _, _, _, _, _, _, _, _, _, _, _, _, _, _, _, _, _, _, _, _, _, _, _, _, _, _, _, _, _, _, _, _, _, _, _, _, _, _, _, _, _, _, _, _, _, _, _, _, _, _, _, _, _, _, _, _, _, _, _, _, _, _, _, _, _, _, _, _, _, rfl⟩
      | false =>
        simp -implicitDefEqProofs only [ox, ou, ko, ky, kn, kd, oy_seq, oy_ret, oy_exit, oy_skip, oy_cond, oy_block, oy_region, oy_draw, dr_eq, dre_some, stl_some, st_nil, st_op, ot, ov, os_same, sy_nil, sy_op, nxt_normal, nxt_ret, nxt_exit, blk_exit, blk_normal, blk_ret, reg_some, cnd_true, cnd_false, opr_some, grd_true, grd_false, fin_ret, fin_normal, finv_some, Region.wanted, opA, callV, aop, evalL, evalO, putE, binA, bi_add, bi_sub, bi_mul, bi_eql, bi_neq, bi_lss, bi_leq, bi_gtr, bi_geq, unA, ofVal, ofLeaf, resultsA, tupA, AV.rfL, AV.rf, yielded_yv, yv_bool, yv_undef, yv_none, og_n, List.replicate, Option.bind, heapFree, onlyReads, List.set, List.getD, List.getElem?_cons_succ, List.getElem?_cons_zero, Option.getD, Option.map, decide_true, decide_false, if_true, if_false, Bool.false_eq_true, Bool.not_true, Bool.not_false, beq_self_eq_true, Bool.true_and, Bool.and_true, Bool.and_self, Bool.false_and, Bool.and_false, Bool.true_or, Bool.or_true, Bool.false_or, Bool.or_false, Bool.or_self, List.length_cons, List.length_nil, List.cons_append, List.nil_append, ite_self, List.getElem?_toArray, Option.bind_some, Option.bind_none, og_tt, og_ff, og_tf, og_ft, Int.reduceBNe, Int.reduceBEq, Int.reduceLT, Int.reduceLE, e1, i1, i3, i4, i5, i6, j1, j3, j4, j5, j6, w1, w2, w3, c1, hm, d13, List.take, List.drop, Option.map]
        exact ih (k + 1) (by omega) hall
    · simp only [c1, decide_false, Bool.false_and] at hm
      subst hm
      simp -implicitDefEqProofs only [ox, ou, ko, ky, kn, kd, oy_seq, oy_ret, oy_exit, oy_skip, oy_cond, oy_block, oy_region, oy_draw, dr_eq, dre_some, stl_some, st_nil, st_op, ot, ov, os_same, sy_nil, sy_op, nxt_normal, nxt_ret, nxt_exit, blk_exit, blk_normal, blk_ret, reg_some, cnd_true, cnd_false, opr_some, grd_true, grd_false, fin_ret, fin_normal, finv_some, Region.wanted, opA, callV, aop, evalL, evalO, putE, binA, bi_add, bi_sub, bi_mul, bi_eql, bi_neq, bi_lss, bi_leq, bi_gtr, bi_geq, unA, ofVal, ofLeaf, resultsA, tupA, AV.rfL, AV.rf, yielded_yv, yv_bool, yv_undef, yv_none, og_n, List.replicate, Option.bind, heapFree, onlyReads, List.set, List.getD, List.getElem?_cons_succ, List.getElem?_cons_zero, Option.getD, Option.map, decide_true, decide_false, if_true, if_false, Bool.false_eq_true, Bool.not_true, Bool.not_false, beq_self_eq_true, Bool.true_and, Bool.and_true, Bool.and_self, Bool.false_and, Bool.and_false, Bool.true_or, Bool.or_true, Bool.false_or, Bool.or_false, Bool.or_self, List.length_cons, List.length_nil, List.cons_append, List.nil_append, ite_self, List.getElem?_toArray, Option.bind_some, Option.bind_none, og_tt, og_ff, og_tf, og_ft, Int.reduceBNe, Int.reduceBEq, Int.reduceLT, Int.reduceLE, e1, i1, i3, i4, i5, i6, j1, j3, j4, j5, j6, w1, w2, w3, c1, d13, List.take, List.drop, Option.map]
      exact ih (k + 1) (by omega) hall
end Go.Proofs.Ytlbkcdfllglddaa.fmt
/-! Check of a layout, the reference's: the outer loop and the call. Conditions: in each statement. -/
namespace Go.Proofs.Ytlbkcdfllglddaa.fmt
open Go Go.Ab
set_option maxRecDepth 100000
set_option linter.unusedSimpArgs false
set_option linter.unusedVariables false
attribute [local simp] ox ou ko ky kn kd oy_seq oy_ret oy_exit oy_skip oy_cond oy_block oy_region oy_draw dr_eq dre_some stl_some st_nil st_op ot ov os_same sy_nil sy_op nxt_normal nxt_ret nxt_exit blk_exit blk_normal blk_ret reg_some cnd_true cnd_false opr_some grd_true grd_false fin_ret fin_normal finv_some Region.wanted opA callV aop evalL evalO putE binA bi_add bi_sub bi_mul bi_eql bi_neq bi_lss bi_leq bi_gtr bi_geq unA ofVal ofLeaf resultsA tupA AV.rfL AV.rf yielded_yv yv_bool yv_undef yv_none og_n List.replicate Option.bind heapFree onlyReads
def Out2 (size : Int) (v : AV) (H : Heap) (ok : Bool) (e : Option (Ex × St)) : Prop := ∃ (y2 y3 y5 y6 y7 y8 y9 y10 y11 y12 y13 y14 y15 y16 y17 y18 y19 y20 y21 y22 y23 y24 y25 y26 y27 y28 y29 y30 y31 y32 y33 y34 y35 y36 y37 y38 y39 y40 y41 y42 y43 y44 y45 y46 y47 y48 y49 y50 y51 y52 y53 y54 y55 y56 y57 y58 y59 y60 y61 y62 y63 y64 y65 y66 y67 y68 y69 y70 y71 y72 y73 y74 y75 y76 y77 y78 y79 y80 y81 y82 y83 : AV), e =
   some (if ok = true then (.exit 0, ⟨[.int .i64 size, v, y2, y3, .int .i64 0, y5, y6, y7, y8, y9, y10, y11, y12, y13, y14, y15, y16, y17, y18, y19, y20, y21, y22, y23, y24, y25, y26, y27, y28, y29, y30, y31, y32, y33, y34, y35, y36, y37, y38, y39, y40, y41, y42, y43, y44, y45, y46, y47, y48, y49, y50, y51, y52, y53, y54, y55, y56, y57, y58, y59, y60, y61, y62, y63, y64, y65, y66, y67, y68, y69, y70, y71, y72, y73, y74, y75, y76, y77, y78, y79, y80, y81, y82, y83], [], H⟩) else (.ret, ⟨[.int .i64 size, v, y2, y3, .int .i64 8, y5, y6, y7, y8, y9, y10, y11, y12, y13, y14, y15, y16, y17, y18, y19, y20, y21, y22, y23, y24, y25, y26, y27, y28, y29, y30, y31, y32, y33, y34, y35, y36, y37, y38, y39, y40, y41, y42, y43, y44, y45, y46, y47, y48, y49, y50, y51, y52, y53, y54, y55, y56, y57, y58, y59, y60, y61, y62, y63, y64, y65, y66, y67, y68, y69, y70, y71, y72, y73, y74, y75, y76, y77, y78, y79, y80, y81, y82, y83], [], H⟩))
theorem take_snoc {l : List Pi} {i : Nat} {p : Pi} (h : l[i]? = some p) : l.take (i + 1) = l.take i ++ [p] ∧ l.drop i = p :: l.drop (i + 1) := by
  have hl := (List.getElem?_eq_some_iff.1 h)
  obtain ⟨h1, rfl⟩ := hl
  exact ⟨by rw [List.take_succ_eq_append_getElem h1], List.drop_eq_getElem_cons h1⟩
set_option maxHeartbeats 4000000 in
theorem out2_loop (cx : Ctx) (lo : Nat) (H : Heap) (size : Int) (hs : size ≤ 64) (l : List Pi) (hlen : l.length ≤ 4) (v : AV) (hR : Rd H v l) :
    ∀ (m i : Nat) {x2 x3 x6 x7 x8 x9 x10 x11 x12 x13 x14 x15 x16 x17 x18 x19 x20 x21 x22 x23 x24 x25 x26 x27 x28 x29 x30 x31 x32 x33 x34 x35 x36 x37 x38 x39 x40 x41 x42 x43 x44 x45 x46 x47 x48 x49 x50 x51 x52 x53 x54 x55 x56 x57 x58 x59 x60 x61 x62 x63 x64 x65 x66 x67 x68 x69 x70 x71 x72 x73 x74 x75 x76 x77 x78 x79 x80 x81 x82 x83 : AV}, i + m = l.length → (∀ q ∈ l.take i, inb size q = true) →
    Out2 size v H (okFrom size (l.take i) (l.drop i)) (om Try.prog cx lo (loopAt Try.f27 0) ⟨[.int .i64 size, v, x2, x3, .int .i64 0, .int .i64 i, x6, x7, x8, x9, x10, x11, x12, x13, x14, x15, x16, x17, x18, x19, x20, x21, x22, x23, x24, x25, x26, x27, x28, x29, x30, x31, x32, x33, x34, x35, x36, x37, x38, x39, x40, x41, x42, x43, x44, x45, x46, x47, x48, x49, x50, x51, x52, x53, x54, x55, x56, x57, x58, x59, x60, x61, x62, x63, x64, x65, x66, x67, x68, x69, x70, x71, x72, x73, x74, x75, x76, x77, x78, x79, x80, x81, x82, x83], [], H⟩) := by
  have d8 := dr27_8
  simp -implicitDefEqProofs +decide only [regAt, regIn, Option.getD, Try.f27, if_true, if_false] at d8
  have L := fun p i hi hp m k => @in2_loop cx lo H size hs l hlen v hR p i hi hp m k
  simp -implicitDefEqProofs +decide only [loopAt, loopIn, firstC, Try.f27, Option.getD, if_true, if_false] at L ⊢
  have hln := hR.len
  intro m
  induction m with
  | zero =>
    intro i x2 x3 x6 x7 x8 x9 x10 x11 x12 x13 x14 x15 x16 x17 x18 x19 x20 x21 x22 x23 x24 x25 x26 x27 x28 x29 x30 x31 x32 x33 x34 x35 x36 x37 x38 x39 x40 x41 x42 x43 x44 x45 x46 x47 x48 x49 x50 x51 x52 x53 x54 x55 x56 x57 x58 x59 x60 x61 x62 x63 x64 x65 x66 x67 x68 x69 x70 x71 x72 x73 x74 x75 x76 x77 x78 x79 x80 x81 x82 x83 hi hall
    have e1 : ¬ ((i : Int) < (l.length : Int)) := by omega
    have e2 : l.drop i = [] := List.drop_eq_nil_of_le (by omega)
    rw [e2, oy_loop]
    simp -implicitDefEqProofs only [ox, ou, ko, ky, kn, kd, oy_seq, oy_ret, oy_exit, oy_skip, oy_cond, oy_block, oy_region, oy_draw, dr_eq, dre_some, stl_some, st_nil, st_op, ot, ov, os_same, sy_nil, sy_op, nxt_normal, nxt_ret, nxt_exit, blk_exit, blk_normal, blk_ret, reg_some, cnd_true, cnd_false, opr_some, grd_true, grd_false, fin_ret, fin_normal, finv_some, Region.wanted, opA, callV, aop, evalL, evalO, putE, binA, bi_add, bi_sub, bi_mul, bi_eql, bi_neq, bi_lss, bi_leq, bi_gtr, bi_geq, unA, ofVal, ofLeaf, resultsA, tupA, AV.rfL, AV.rf, yielded_yv, yv_bool, yv_undef, yv_none, og_n, List.replicate, Option.bind, heapFree, onlyReads, List.set, List.getD, List.getElem?_cons_succ, List.getElem?_cons_zero, Option.getD, Option.map, decide_true, decide_false, if_true, if_false, Bool.false_eq_true, Bool.not_true, Bool.not_false, beq_self_eq_true, Bool.true_and, Bool.and_true, Bool.and_self, Bool.false_and, Bool.and_false, Bool.true_or, Bool.or_true, Bool.false_or, Bool.or_false, Bool.or_self, List.length_cons, List.length_nil, List.cons_append, List.nil_append, ite_self, List.getElem?_toArray, Option.bind_some, Option.bind_none, og_tt, og_ff, og_tf, og_ft, Int.reduceBNe, Int.reduceBEq, Int.reduceLT, Int.reduceLE, hln, e1, okFrom, Option.map]
    exact ⟨_, _, _, _, _, _, _, _, _, _, _, _, _, _, _, _, _, _, _, _, _, _, _, _, _, _, _, _, _, _, _, _, _, _, _, _, _, _, _, _, _, _, _, _, _, _, _, _, _, _, _, _, _, _, _, _, _, _, _, _, _, _, _, _, _, _, _, _, _, _, _, _, _, _, _, _, _, _, _, _, _, rfl⟩
  | succ m ih =>
    intro i x2 x3 x6 x7 x8 x9 x10 x11 x12 x13 x14 x15 x16 x17 x18 x19 x20 x21 x22 x23 x24 x25 x26 x27 x28 x29 x30 x31 x32 x33 x34 x35 x36 x37 x38 x39 x40 x41 x42 x43 x44 x45 x46 x47 x48 x49 x50 x51 x52 x53 x54 x55 x56 x57 x58 x59 x60 x61 x62 x63 x64 x65 x66 x67 x68 x69 x70 x71 x72 x73 x74 x75 x76 x77 x78 x79 x80 x81 x82 x83 hi hall
    have e1 : (i : Int) < (l.length : Int) := by omega
    obtain ⟨p, hp⟩ : ∃ p, l[i]? = some p := ⟨l[i]'(by omega), List.getElem?_eq_getElem (by omega)⟩
    obtain ⟨q, q0, q1, i1, i2, i3, i4, i5, i6⟩ := hR.at hp
    obtain ⟨et, ed⟩ := take_snoc hp
    have w3 : IntKind.i64.wrap ((i : Int) + 1) = ((i + 1 : Nat) : Int) := by rw [wi64 (by omega) (by omega)]; push_cast; rfl
    rw [ed, oy_loop]
    cases hb1 : (decide (1 ≤ p.2) && decide (p.2 ≤ size)) with
    | false =>
      have hok : okFrom size (l.take i) (p :: l.drop (i + 1)) = false := by simp only [okFrom, inb, hb1, Bool.false_and]
      simp -implicitDefEqProofs only [ox, ou, ko, ky, kn, kd, oy_seq, oy_ret, oy_exit, oy_skip, oy_cond, oy_block, oy_region, oy_draw, dr_eq, dre_some, stl_some, st_nil, st_op, ot, ov, os_same, sy_nil, sy_op, nxt_normal, nxt_ret, nxt_exit, blk_exit, blk_normal, blk_ret, reg_some, cnd_true, cnd_false, opr_some, grd_true, grd_false, fin_ret, fin_normal, finv_some, Region.wanted, opA, callV, aop, evalL, evalO, putE, binA, bi_add, bi_sub, bi_mul, bi_eql, bi_neq, bi_lss, bi_leq, bi_gtr, bi_geq, unA, ofVal, ofLeaf, resultsA, tupA, AV.rfL, AV.rf, yielded_yv, yv_bool, yv_undef, yv_none, og_n, List.replicate, Option.bind, heapFree, onlyReads, List.set, List.getD, List.getElem?_cons_succ, List.getElem?_cons_zero, Option.getD, Option.map, decide_true, decide_false, if_true, if_false, Bool.false_eq_true, Bool.not_true, Bool.not_false, beq_self_eq_true, Bool.true_and, Bool.and_true, Bool.and_self, Bool.false_and, Bool.and_false, Bool.true_or, Bool.or_true, Bool.false_or, Bool.or_false, Bool.or_self, List.length_cons, List.length_nil, List.cons_append, List.nil_append, ite_self, List.getElem?_toArray, Option.bind_some, Option.bind_none, og_tt, og_ff, og_tf, og_ft, Int.reduceBNe, Int.reduceBEq, Int.reduceLT, Int.reduceLE, hln, e1, i1, i3, i4, i5, i6, d8, List.take, List.drop, Option.map, in_run, hb1, hok]
      exact ⟨_, _, _, _, _, _, _, _, _, _, _, _, _, _, _, _, _, _, _, _, _, _, _, _, _, _, _, _, _, _, _, _, _, _, _, _, _, _, _, _, _, _, _, _, _, _, _, _, _, _, _, _, _, _, _, _, _, _, _, _, _, _, _, _, _, _, _, _, _, _, _, _, _, _, _, _, _, _, _, _, _, rfl⟩
    | true =>
      have hb1' := hb1
      simp only [Bool.and_eq_true, decide_eq_true_eq] at hb1'
      have w1 : IntKind.i64.wrap (size - p.2) = size - p.2 := wi64 (by omega) (by omega)
      cases hb2 : (decide (0 ≤ p.1) && decide (p.1 ≤ size - p.2)) with
      | false =>
        have hok : okFrom size (l.take i) (p :: l.drop (i + 1)) = false := by simp only [okFrom, inb, hb1, hb2, Bool.false_and, Bool.and_false]
        simp -implicitDefEqProofs only [ox, ou, ko, ky, kn, kd, oy_seq, oy_ret, oy_exit, oy_skip, oy_cond, oy_block, oy_region, oy_draw, dr_eq, dre_some, stl_some, st_nil, st_op, ot, ov, os_same, sy_nil, sy_op, nxt_normal, nxt_ret, nxt_exit, blk_exit, blk_normal, blk_ret, reg_some, cnd_true, cnd_false, opr_some, grd_true, grd_false, fin_ret, fin_normal, finv_some, Region.wanted, opA, callV, aop, evalL, evalO, putE, binA, bi_add, bi_sub, bi_mul, bi_eql, bi_neq, bi_lss, bi_leq, bi_gtr, bi_geq, unA, ofVal, ofLeaf, resultsA, tupA, AV.rfL, AV.rf, yielded_yv, yv_bool, yv_undef, yv_none, og_n, List.replicate, Option.bind, heapFree, onlyReads, List.set, List.getD, List.getElem?_cons_succ, List.getElem?_cons_zero, Option.getD, Option.map, decide_true, decide_false, if_true, if_false, Bool.false_eq_true, Bool.not_true, Bool.not_false, beq_self_eq_true, Bool.true_and, Bool.and_true, Bool.and_self, Bool.false_and, Bool.and_false, Bool.true_or, Bool.or_true, Bool.false_or, Bool.or_false, Bool.or_self, List.length_cons, List.length_nil, List.cons_append, List.nil_append, ite_self, List.getElem?_toArray, Option.bind_some, Option.bind_none, og_tt, og_ff, og_tf, og_ft, Int.reduceBNe, Int.reduceBEq, Int.reduceLT, Int.reduceLE, hln, e1, i1, i3, i4, i5, i6, d8, w1, List.take, List.drop, Option.map, in_run, hb1, hb2, hok]
        exact ⟨_, _, _, _, _, _, _, _, _, _, _, _, _, _, _, _, _, _, _, _, _, _, _, _, _, _, _, _, _, _, _, _, _, _, _, _, _, _, _, _, _, _, _, _, _, _, _, _, _, _, _, _, _, _, _, _, _, _, _, _, _, _, _, _, _, _, _, _, _, _, _, _, _, _, _, _, _, _, _, _, _, rfl⟩
      | true =>
        have hib : inb size p = true := by simp only [inb, hb1, hb2, Bool.and_self]
        simp -implicitDefEqProofs only [ox, ou, ko, ky, kn, kd, oy_seq, oy_ret, oy_exit, oy_skip, oy_cond, oy_block, oy_region, oy_draw, dr_eq, dre_some, stl_some, st_nil, st_op, ot, ov, os_same, sy_nil, sy_op, nxt_normal, nxt_ret, nxt_exit, blk_exit, blk_normal, blk_ret, reg_some, cnd_true, cnd_false, opr_some, grd_true, grd_false, fin_ret, fin_normal, finv_some, Region.wanted, opA, callV, aop, evalL, evalO, putE, binA, bi_add, bi_sub, bi_mul, bi_eql, bi_neq, bi_lss, bi_leq, bi_gtr, bi_geq, unA, ofVal, ofLeaf, resultsA, tupA, AV.rfL, AV.rf, yielded_yv, yv_bool, yv_undef, yv_none, og_n, List.replicate, Option.bind, heapFree, onlyReads, List.set, List.getD, List.getElem?_cons_succ, List.getElem?_cons_zero, Option.getD, Option.map, decide_true, decide_false, if_true, if_false, Bool.false_eq_true, Bool.not_true, Bool.not_false, beq_self_eq_true, Bool.true_and, Bool.and_true, Bool.and_self, Bool.false_and, Bool.and_false, Bool.true_or, Bool.or_true, Bool.false_or, Bool.or_false, Bool.or_self, List.length_cons, List.length_nil, List.cons_append, List.nil_append, ite_self, List.getElem?_toArray, Option.bind_some, Option.bind_none, og_tt, og_ff, og_tf, og_ft, Int.reduceBNe, Int.reduceBEq, Int.reduceLT, Int.reduceLE, hln, e1, i1, i3, i4, i5, i6, d8, w1, List.take, List.drop, Option.map, in_run, hb1, hb2]
        generalize hr : om Try.prog _ _ (Code.loop _) _ = r
        have P : In2 size v i H (((l.take i).drop 0).any fun q => meet q p) r := by
          rw [← hr]; exact L p i hp hib i 0 (by first | trivial | omega) hall
        rw [List.drop_zero] at P
        obtain ⟨y2, y3, y6, y7, y8, y9, y10, y11, y12, y13, y14, y15, y16, y17, y18, y19, y20, y21, y22, y23, y24, y25, y26, y27, y28, y29, y30, y31, y32, y33, y34, y35, y36, y37, y38, y39, y40, y41, y42, y43, y44, y45, y46, y47, y48, y49, y50, y51, y52, y53, y54, y55, y56, y57, y58, y59, y60, y61, y62, y63, y64, y65, y66, y67, y68, y69, y70, y71, y72, y73, y74, y75, y76, y77, y78, y79, y80, y81, y82, y83, rfl⟩ := P
        clear hr
        cases ha : ((l.take i).any fun q => meet q p) with
        | true =>
          have hok : okFrom size (l.take i) (p :: l.drop (i + 1)) = false := by
            have : ((l.take i).all fun q => !meet q p) = false := by rw [← List.not_any_eq_all_not, ha]; rfl
            simp only [okFrom, this, Bool.false_and, Bool.and_false]
          simp -implicitDefEqProofs only [ox, ou, ko, ky, kn, kd, oy_seq, oy_ret, oy_exit, oy_skip, oy_cond, oy_block, oy_region, oy_draw, dr_eq, dre_some, stl_some, st_nil, st_op, ot, ov, os_same, sy_nil, sy_op, nxt_normal, nxt_ret, nxt_exit, blk_exit, blk_normal, blk_ret, reg_some, cnd_true, cnd_false, opr_some, grd_true, grd_false, fin_ret, fin_normal, finv_some, Region.wanted, opA, callV, aop, evalL, evalO, putE, binA, bi_add, bi_sub, bi_mul, bi_eql, bi_neq, bi_lss, bi_leq, bi_gtr, bi_geq, unA, ofVal, ofLeaf, resultsA, tupA, AV.rfL, AV.rf, yielded_yv, yv_bool, yv_undef, yv_none, og_n, List.replicate, Option.bind, heapFree, onlyReads, List.set, List.getD, List.getElem?_cons_succ, List.getElem?_cons_zero, Option.getD, Option.map, decide_true, decide_false, if_true, if_false, Bool.false_eq_true, Bool.not_true, Bool.not_false, beq_self_eq_true, Bool.true_and, Bool.and_true, Bool.and_self, Bool.false_and, Bool.and_false, Bool.true_or, Bool.or_true, Bool.false_or, Bool.or_false, Bool.or_self, List.length_cons, List.length_nil, List.cons_append, List.nil_append, ite_self, List.getElem?_toArray, Option.bind_some, Option.bind_none, og_tt, og_ff, og_tf, og_ft, Int.reduceBNe, Int.reduceBEq, Int.reduceLT, Int.reduceLE, hok, blk_ret]
          exact ⟨_, _, _, _, _, _, _, _, _, _, _, _, _, _, _, _, _, _, _, _, _, _, _, _, _, _, _, _, _, _, _, _, _, _, _, _, _, _, _, _, _, _, _, _, _, _, _, _, _, _, _, _, _, _, _, _, _, _, _, _, _, _, _, _, _, _, _, _, _, _, _, _, _, _, _, _, _, _, _, _, _, rfl⟩
        | false =>
          have hok : okFrom size (l.take i) (p :: l.drop (i + 1)) = okFrom size (l.take (i + 1)) (l.drop (i + 1)) := by
            have : ((l.take i).all fun q => !meet q p) = true := by rw [← List.not_any_eq_all_not, ha]; rfl
            simp only [okFrom, this, hib, Bool.true_and, et]
          simp -implicitDefEqProofs only [ox, ou, ko, ky, kn, kd, oy_seq, oy_ret, oy_exit, oy_skip, oy_cond, oy_block, oy_region, oy_draw, dr_eq, dre_some, stl_some, st_nil, st_op, ot, ov, os_same, sy_nil, sy_op, nxt_normal, nxt_ret, nxt_exit, blk_exit, blk_normal, blk_ret, reg_some, cnd_true, cnd_false, opr_some, grd_true, grd_false, fin_ret, fin_normal, finv_some, Region.wanted, opA, callV, aop, evalL, evalO, putE, binA, bi_add, bi_sub, bi_mul, bi_eql, bi_neq, bi_lss, bi_leq, bi_gtr, bi_geq, unA, ofVal, ofLeaf, resultsA, tupA, AV.rfL, AV.rf, yielded_yv, yv_bool, yv_undef, yv_none, og_n, List.replicate, Option.bind, heapFree, onlyReads, List.set, List.getD, List.getElem?_cons_succ, List.getElem?_cons_zero, Option.getD, Option.map, decide_true, decide_false, if_true, if_false, Bool.false_eq_true, Bool.not_true, Bool.not_false, beq_self_eq_true, Bool.true_and, Bool.and_true, Bool.and_self, Bool.false_and, Bool.and_false, Bool.true_or, Bool.or_true, Bool.false_or, Bool.or_false, Bool.or_self, List.length_cons, List.length_nil, List.cons_append, List.nil_append, ite_self, List.getElem?_toArray, Option.bind_some, Option.bind_none, og_tt, og_ff, og_tf, og_ft, Int.reduceBNe, Int.reduceBEq, Int.reduceLT, Int.reduceLE, hok, w3]
          exact ih (i + 1) (by omega) (by
            rw [et]; intro q hq
            rcases List.mem_append.1 hq with hq | hq
            · exact hall q hq
            · obtain rfl := List.mem_singleton.1 hq; exact hib)
set_option maxHeartbeats 4000000 in
theorem refCheck_run (size : Int) (l : List Pi) (v : AV) (lo : Nat) (H : Heap) (hR : Rd H v l) (hl : l.length ≤ 1000) :
    callA Try.prog (om Try.prog) lo 27 [.int .i64 size, v] H = some (.int .i64 (chkE size l), H) := by
  rw [call_eq Try.func27 rfl rfl]
  generalize (if AV.rfL [.int .i64 size, v] = true then H.next else lo) = lo'
  generalize AV.rfL [.int .i64 size, v] = own
  have hln := hR.len
  unfold chkE
  cases hb : (decide (1 ≤ size) && decide (size ≤ 64)) with
  | false =>
    simp -implicitDefEqProofs only [Try.f27]
    simp -implicitDefEqProofs only [ox, ou, ko, ky, kn, kd, oy_seq, oy_ret, oy_exit, oy_skip, oy_cond, oy_block, oy_region, oy_draw, dr_eq, dre_some, stl_some, st_nil, st_op, ot, ov, os_same, sy_nil, sy_op, nxt_normal, nxt_ret, nxt_exit, blk_exit, blk_normal, blk_ret, reg_some, cnd_true, cnd_false, opr_some, grd_true, grd_false, fin_ret, fin_normal, finv_some, Region.wanted, opA, callV, aop, evalL, evalO, putE, binA, bi_add, bi_sub, bi_mul, bi_eql, bi_neq, bi_lss, bi_leq, bi_gtr, bi_geq, unA, ofVal, ofLeaf, resultsA, tupA, AV.rfL, AV.rf, yielded_yv, yv_bool, yv_undef, yv_none, og_n, List.replicate, Option.bind, heapFree, onlyReads, List.set, List.getD, List.getElem?_cons_succ, List.getElem?_cons_zero, Option.getD, Option.map, decide_true, decide_false, if_true, if_false, Bool.false_eq_true, Bool.not_true, Bool.not_false, beq_self_eq_true, Bool.true_and, Bool.and_true, Bool.and_self, Bool.false_and, Bool.and_false, Bool.true_or, Bool.or_true, Bool.false_or, Bool.or_false, Bool.or_self, List.length_cons, List.length_nil, List.cons_append, List.nil_append, ite_self, List.getElem?_toArray, Option.bind_some, Option.bind_none, og_tt, og_ff, og_tf, og_ft, Int.reduceBNe, Int.reduceBEq, Int.reduceLT, Int.reduceLE, in_run, hb]
  | true =>
    have hb0 := hb
    simp only [Bool.and_eq_true, decide_eq_true_eq] at hb0
    by_cases h4 : 4 < l.length
    · have c4 : (4 : Int) < (l.length : Int) := by omega
      simp -implicitDefEqProofs only [Try.f27]
      simp -implicitDefEqProofs only [ox, ou, ko, ky, kn, kd, oy_seq, oy_ret, oy_exit, oy_skip, oy_cond, oy_block, oy_region, oy_draw, dr_eq, dre_some, stl_some, st_nil, st_op, ot, ov, os_same, sy_nil, sy_op, nxt_normal, nxt_ret, nxt_exit, blk_exit, blk_normal, blk_ret, reg_some, cnd_true, cnd_false, opr_some, grd_true, grd_false, fin_ret, fin_normal, finv_some, Region.wanted, opA, callV, aop, evalL, evalO, putE, binA, bi_add, bi_sub, bi_mul, bi_eql, bi_neq, bi_lss, bi_leq, bi_gtr, bi_geq, unA, ofVal, ofLeaf, resultsA, tupA, AV.rfL, AV.rf, yielded_yv, yv_bool, yv_undef, yv_none, og_n, List.replicate, Option.bind, heapFree, onlyReads, List.set, List.getD, List.getElem?_cons_succ, List.getElem?_cons_zero, Option.getD, Option.map, decide_true, decide_false, if_true, if_false, Bool.false_eq_true, Bool.not_true, Bool.not_false, beq_self_eq_true, Bool.true_and, Bool.and_true, Bool.and_self, Bool.false_and, Bool.and_false, Bool.true_or, Bool.or_true, Bool.false_or, Bool.or_false, Bool.or_self, List.length_cons, List.length_nil, List.cons_append, List.nil_append, ite_self, List.getElem?_toArray, Option.bind_some, Option.bind_none, og_tt, og_ff, og_tf, og_ft, Int.reduceBNe, Int.reduceBEq, Int.reduceLT, Int.reduceLE, in_run, hb, hln, h4, c4, Option.map]
    · have c4 : ¬ ((4 : Int) < (l.length : Int)) := by omega
      have L := fun cx lo => @out2_loop cx lo H size hb0.2 l (by omega) v hR l.length 0
      simp -implicitDefEqProofs +decide only [loopAt, loopIn, firstC, Try.f27, Option.getD, if_true, if_false] at L
      simp -implicitDefEqProofs only [Try.f27]
      simp -implicitDefEqProofs only [ox, ou, ko, ky, kn, kd, oy_seq, oy_ret, oy_exit, oy_skip, oy_cond, oy_block, oy_region, oy_draw, dr_eq, dre_some, stl_some, st_nil, st_op, ot, ov, os_same, sy_nil, sy_op, nxt_normal, nxt_ret, nxt_exit, blk_exit, blk_normal, blk_ret, reg_some, cnd_true, cnd_false, opr_some, grd_true, grd_false, fin_ret, fin_normal, finv_some, Region.wanted, opA, callV, aop, evalL, evalO, putE, binA, bi_add, bi_sub, bi_mul, bi_eql, bi_neq, bi_lss, bi_leq, bi_gtr, bi_geq, unA, ofVal, ofLeaf, resultsA, tupA, AV.rfL, AV.rf, yielded_yv, yv_bool, yv_undef, yv_none, og_n, List.replicate, Option.bind, heapFree, onlyReads, List.set, List.getD, List.getElem?_cons_succ, List.getElem?_cons_zero, Option.getD, Option.map, decide_true, decide_false, if_true, if_false, Bool.false_eq_true, Bool.not_true, Bool.not_false, beq_self_eq_true, Bool.true_and, Bool.and_true, Bool.and_self, Bool.false_and, Bool.and_false, Bool.true_or, Bool.or_true, Bool.false_or, Bool.or_false, Bool.or_self, List.length_cons, List.length_nil, List.cons_append, List.nil_append, ite_self, List.getElem?_toArray, Option.bind_some, Option.bind_none, og_tt, og_ff, og_tf, og_ft, Int.reduceBNe, Int.reduceBEq, Int.reduceLT, Int.reduceLE, in_run, hb, hln, h4, c4, Option.map]
      generalize hr : om Try.prog _ _ (Code.loop _) _ = r
      have P : Out2 size v H (okFrom size (l.take 0) (l.drop 0)) r := by
        rw [← hr]; exact L _ _ (by simp) (by simp)
      rw [List.take_zero, List.drop_zero] at P
      obtain ⟨y2, y3, y5, y6, y7, y8, y9, y10, y11, y12, y13, y14, y15, y16, y17, y18, y19, y20, y21, y22, y23, y24, y25, y26, y27, y28, y29, y30, y31, y32, y33, y34, y35, y36, y37, y38, y39, y40, y41, y42, y43, y44, y45, y46, y47, y48, y49, y50, y51, y52, y53, y54, y55, y56, y57, y58, y59, y60, y61, y62, y63, y64, y65, y66, y67, y68, y69, y70, y71, y72, y73, y74, y75, y76, y77, y78, y79, y80, y81, y82, y83, rfl⟩ := P
      clear hr L
      cases hok : okFrom size [] l <;> simp -implicitDefEqProofs only [ox, ou, ko, ky, kn, kd, oy_seq, oy_ret, oy_exit, oy_skip, oy_cond, oy_block, oy_region, oy_draw, dr_eq, dre_some, stl_some, st_nil, st_op, ot, ov, os_same, sy_nil, sy_op, nxt_normal, nxt_ret, nxt_exit, blk_exit, blk_normal, blk_ret, reg_some, cnd_true, cnd_false, opr_some, grd_true, grd_false, fin_ret, fin_normal, finv_some, Region.wanted, opA, callV, aop, evalL, evalO, putE, binA, bi_add, bi_sub, bi_mul, bi_eql, bi_neq, bi_lss, bi_leq, bi_gtr, bi_geq, unA, ofVal, ofLeaf, resultsA, tupA, AV.rfL, AV.rf, yielded_yv, yv_bool, yv_undef, yv_none, og_n, List.replicate, Option.bind, heapFree, onlyReads, List.set, List.getD, List.getElem?_cons_succ, List.getElem?_cons_zero, Option.getD, Option.map, decide_true, decide_false, if_true, if_false, Bool.false_eq_true, Bool.not_true, Bool.not_false, beq_self_eq_true, Bool.true_and, Bool.and_true, Bool.and_self, Bool.false_and, Bool.and_false, Bool.true_or, Bool.or_true, Bool.false_or, Bool.or_false, Bool.or_self, List.length_cons, List.length_nil, List.cons_append, List.nil_append, ite_self, List.getElem?_toArray, Option.bind_some, Option.bind_none, og_tt, og_ff, og_tf, og_ft, Int.reduceBNe, Int.reduceBEq, Int.reduceLT, Int.reduceLE, hok]
end Go.Proofs.Ytlbkcdfllglddaa.fmt
/-! The places of a layout's bits, as the reference gathers them: the interpreter's runs. Conditions: in each statement. -/
namespace Go.Proofs.Ytlbkcdfllglddaa.fmt
open Go Go.Ab
set_option maxRecDepth 100000
set_option linter.unusedSimpArgs false
set_option linter.unusedVariables false
attribute [local simp] ox ou ko ky kn kd oy_seq oy_ret oy_exit oy_skip oy_cond oy_block oy_region oy_draw dr_eq dre_some stl_some st_nil st_op ot ov os_same sy_nil sy_op nxt_normal nxt_ret nxt_exit blk_exit blk_normal blk_ret reg_some cnd_true cnd_false opr_some grd_true grd_false fin_ret fin_normal finv_some Region.wanted opA callV aop evalL evalO putE binA bi_add bi_sub bi_mul bi_eql bi_neq bi_lss bi_leq bi_gtr bi_geq unA ofVal ofLeaf resultsA tupA AV.rfL AV.rf yielded_yv yv_bool yv_undef yv_none og_n List.replicate Option.bind heapFree onlyReads
/-- a slice of whole numbers that has been made since -/
def IntsO (H0 H : Heap) (u : AV) (ps : List Nat) : Prop :=
  ((∃ sz, u = .rsl none 0 sz []) ∧ ps = []) ∨ (∃ b, H0.next ≤ b ∧ b < H.next ∧ u = .sl b 0 ps.length 1 ∧ H.get b = some (.cells 3 (ps.map fun n : Nat => AV.int .i64 (n : Int))))
theorem IntsO.ints {H0 H : Heap} {u : AV} {ps : List Nat} (h : IntsO H0 H u ps) : Ints H u ps := by
  rcases h with ⟨⟨sz, rfl⟩, rfl⟩ | ⟨b, h1, h2, h3, h4⟩
  · exact .inl ⟨sz, rfl, rfl⟩
  · exact .inr ⟨b, h3, h2, h4⟩
theorem IntsO.ext {H0 H H' : Heap} {u : AV} {ps : List Nat} (h : IntsO H0 H u ps) (x : Ext H H') : IntsO H0 H' u ps := by
  rcases h with h | ⟨b, h1, h2, h3, h4⟩
  · exact .inl h
  · exact .inr ⟨b, h1, Nat.lt_of_lt_of_le h2 x.1, h3, by rw [x.2 b h2]; exact h4⟩
theorem info3 : ∃ i, Try.prog.info? 3 = some i ∧ i.size = 1 ∧ i.bytes = 8 := by
  have h := in3
  cases e : Try.prog.info? 3 with
  | none => rw [e] at h; cases h
  | some i => rw [e] at h; simp at h; exact ⟨i, rfl, h.1, h.2⟩
/-- one number is appended -/
theorem app1 {H0 H : Heap} {u : AV} {ps : List Nat} (h : IntsO H0 H u ps) (x0 : Ext H0 H) (lo : Nat) (hlo : lo ≤ H0.next) (hn : ps.length ≤ 1000) (x : Nat) :
    ∃ u' H', appendA Try.prog lo (H.push (.cells 3 [.int .i64 (x : Int)])) (some 65) (some 65) u (.sl H.next 0 1 1) = some (u', H') ∧ Ext H0 H' ∧ IntsO H0 H' u' (ps ++ [x]) := by
  obtain ⟨i, hi, hs, hb⟩ := info3
  have e1 : elemsA (H.push (.cells 3 [.int .i64 (x : Int)])) 1 (.sl H.next 0 1 1) = some [.int .i64 (x : Int)] := by
    simp -implicitDefEqProofs [elemsA, Heap.get_push]
  have hlt := x0.1
  have hfit : appendFits i ps.length 1 = true := by simp only [appendFits, hb, Bool.and_eq_true, decide_eq_true_eq]; omega
  have hok : appendOk i (.int .i64 0) [.int .i64 (x : Int)] 1 = true := by simp -implicitDefEqProofs [appendOk, hs, AV.cells, leafs, leafA]
  rcases h with ⟨⟨sz, rfl⟩, rfl⟩ | ⟨b, h1, h2, rfl, h4⟩
  · refine ⟨.sl (H.push (.cells 3 [.int .i64 (x : Int)])).next 0 1 1, (H.push (.cells 3 [.int .i64 (x : Int)])).push (.cells 3 [.int .i64 (x : Int)]), ?_, (x0.push _).push _, .inr ⟨_, ?_, ?_, rfl, ?_⟩⟩
    · simp -implicitDefEqProofs [appendA, Try.underlying65, srcOk, hi, ze3, ce3, e1, lenA, hok, appendTo, hs]
      simpa using hfit
    · simp; omega
    · simp
    · rw [Heap.get_push]; simp
  · have hg : (H.push (.cells 3 [.int .i64 (x : Int)])).get b = some (.cells 3 (ps.map fun n : Nat => AV.int .i64 (n : Int))) := by
      rw [Heap.get_push, if_neg (by omega)]; exact h4
    refine ⟨.sl (H.push (.cells 3 [.int .i64 (x : Int)])).next 0 (ps.length + 1) 1, ((H.push (.cells 3 [.int .i64 (x : Int)])).kill b).push (.cells 3 ((ps.map fun n : Nat => AV.int .i64 (n : Int)) ++ [.int .i64 (x : Int)])), ?_, ((x0.push _).kill h1).push _, .inr ⟨(H.push (.cells 3 [.int .i64 (x : Int)])).next, ?_, ?_, ?_, ?_⟩⟩
    · simp -implicitDefEqProofs [appendA, Try.underlying65, srcOk, hi, ze3, ce3, e1, lenA, hok, appendTo, hs, hg, hfit]
      omega
    · simp; omega
    · simp
    · simp
    · rw [Heap.get_push]; simp
def Pl2 (v : AV) (i : Int) (H0 : Heap) (ps : List Nat) (ex : Ex) (e : Option (Ex × St)) : Prop := ∃ (y1 y2 y5 y6 y7 y8 y9 y10 y11 y12 y13 y14 y15 y16 y17 y18 y19 y20 y21 y22 y23 y24 y25 y26 y27 y28 y29 y30 y31 : AV) (u : AV) (H' : Heap), Ext H0 H' ∧ IntsO H0 H' u ps ∧ e = some (ex, ⟨[v, y1, y2, u, .int .i64 i, y5, y6, y7, y8, y9, y10, y11, y12, y13, y14, y15, y16, y17, y18, y19, y20, y21, y22, y23, y24, y25, y26, y27, y28, y29, y30, y31], [], H'⟩)
set_option maxHeartbeats 4000000 in
theorem pl2_loop (cx : Ctx) (lo : Nat) (H0 : Heap) (hlo : lo ≤ H0.next) (l : List Pi) (v : AV) (hR : Rd H0 v l) (p : Pc) (i : Nat) (hi : l[i]? = some (toPi p)) (hp : p.1 + p.2 ≤ 64) (ps0 : List Nat) (hps : ps0.length ≤ 500) :
    ∀ (m k : Nat) (H : Heap) (u : AV) {x1 x2 x6 x7 x8 x9 x10 x11 x12 x13 x14 x15 x16 x17 x18 x19 x20 x21 x22 x23 x24 x25 x26 x27 x28 x29 x30 x31 : AV}, k + m = p.2 → Ext H0 H → IntsO H0 H u (ps0 ++ (List.range k).map (p.1 + ·)) →
    Pl2 v i H0 (ps0 ++ run p) (.exit 2) (om Try.prog cx lo (loopAt Try.f39 2) ⟨[v, x1, x2, u, .int .i64 i, .int .i64 k, x6, x7, x8, x9, x10, x11, x12, x13, x14, x15, x16, x17, x18, x19, x20, x21, x22, x23, x24, x25, x26, x27, x28, x29, x30, x31], [], H⟩) := by
  simp -implicitDefEqProofs +decide only [loopAt, loopIn, firstC, Try.f39, Option.getD, if_true, if_false]
  intro m
  induction m with
  | zero =>
    intro k H u x1 x2 x6 x7 x8 x9 x10 x11 x12 x13 x14 x15 x16 x17 x18 x19 x20 x21 x22 x23 x24 x25 x26 x27 x28 x29 x30 x31 hk x0 hu
    obtain rfl : k = p.2 := by omega
    obtain ⟨q, q0, q1, i1, i2, i3, i4, i5, i6⟩ := (hR.ext x0).at hi
    simp only [toPi] at i5 i6
    rw [oy_loop]
    simp -implicitDefEqProofs only [ox, ou, ko, ky, kn, kd, oy_seq, oy_ret, oy_exit, oy_skip, oy_cond, oy_block, oy_region, oy_draw, dr_eq, dre_some, stl_some, st_nil, st_op, ot, ov, os_same, sy_nil, sy_op, nxt_normal, nxt_ret, nxt_exit, blk_exit, blk_normal, blk_ret, reg_some, cnd_true, cnd_false, opr_some, grd_true, grd_false, fin_ret, fin_normal, finv_some, Region.wanted, opA, callV, aop, evalL, evalO, putE, binA, bi_add, bi_sub, bi_mul, bi_eql, bi_neq, bi_lss, bi_leq, bi_gtr, bi_geq, unA, ofVal, ofLeaf, resultsA, tupA, AV.rfL, AV.rf, yielded_yv, yv_bool, yv_undef, yv_none, og_n, List.replicate, Option.bind, heapFree, onlyReads, List.set, List.getD, List.getElem?_cons_succ, List.getElem?_cons_zero, Option.getD, Option.map, decide_true, decide_false, if_true, if_false, Bool.false_eq_true, Bool.not_true, Bool.not_false, beq_self_eq_true, Bool.true_and, Bool.and_true, Bool.and_self, Bool.false_and, Bool.and_false, Bool.true_or, Bool.or_true, Bool.false_or, Bool.or_false, Bool.or_self, List.length_cons, List.length_nil, List.cons_append, List.nil_append, ite_self, List.getElem?_toArray, Option.bind_some, Option.bind_none, og_tt, og_ff, og_tf, og_ft, Int.reduceBNe, Int.reduceBEq, Int.reduceLT, Int.reduceLE, i1, i3, i4, i5, i6, Int.lt_irrefl]
    exact ⟨_, _, _, _, _, _, _, _, _, _, _, _, _, _, _, _, _, _, _, _, _, _, _, _, _, _, _, _, _, u, H, x0, hu, rfl⟩
  | succ m ih =>
    intro k H u x1 x2 x6 x7 x8 x9 x10 x11 x12 x13 x14 x15 x16 x17 x18 x19 x20 x21 x22 x23 x24 x25 x26 x27 x28 x29 x30 x31 hk x0 hu
    obtain ⟨q, q0, q1, i1, i2, i3, i4, i5, i6⟩ := (hR.ext x0).at hi
    simp only [toPi] at i5 i6
    have e1 : (k : Int) < (p.2 : Int) := by omega
    have w1 : IntKind.i64.wrap ((p.1 : Int) + (k : Int)) = ((p.1 + k : Nat) : Int) := by rw [wi64 (by omega) (by omega)]; push_cast; rfl
    have w3 : IntKind.i64.wrap ((k : Int) + 1) = ((k + 1 : Nat) : Int) := by rw [wi64 (by omega) (by omega)]; push_cast; rfl
    obtain ⟨u', H', a1, a2, a3⟩ := app1 hu x0 lo hlo (by simp; omega) (p.1 + k)
    rw [oy_loop]
    simp -implicitDefEqProofs only [ox, ou, ko, ky, kn, kd, oy_seq, oy_ret, oy_exit, oy_skip, oy_cond, oy_block, oy_region, oy_draw, dr_eq, dre_some, stl_some, st_nil, st_op, ot, ov, os_same, sy_nil, sy_op, nxt_normal, nxt_ret, nxt_exit, blk_exit, blk_normal, blk_ret, reg_some, cnd_true, cnd_false, opr_some, grd_true, grd_false, fin_ret, fin_normal, finv_some, Region.wanted, opA, callV, aop, evalL, evalO, putE, binA, bi_add, bi_sub, bi_mul, bi_eql, bi_neq, bi_lss, bi_leq, bi_gtr, bi_geq, unA, ofVal, ofLeaf, resultsA, tupA, AV.rfL, AV.rf, yielded_yv, yv_bool, yv_undef, yv_none, og_n, List.replicate, Option.bind, heapFree, onlyReads, List.set, List.getD, List.getElem?_cons_succ, List.getElem?_cons_zero, Option.getD, Option.map, decide_true, decide_false, if_true, if_false, Bool.false_eq_true, Bool.not_true, Bool.not_false, beq_self_eq_true, Bool.true_and, Bool.and_true, Bool.and_self, Bool.false_and, Bool.and_false, Bool.true_or, Bool.or_true, Bool.false_or, Bool.or_false, Bool.or_self, List.length_cons, List.length_nil, List.cons_append, List.nil_append, ite_self, List.getElem?_toArray, Option.bind_some, Option.bind_none, og_tt, og_ff, og_tf, og_ft, Int.reduceBNe, Int.reduceBEq, Int.reduceLT, Int.reduceLE, i1, i3, i4, i5, i6, e1, w1, w3, evalParts, build1, a1]
    refine ih (k + 1) H' u' (by omega) a2 ?_
    rw [List.range_succ, List.map_append, ← List.append_assoc]
    exact a3
set_option maxHeartbeats 4000000 in
theorem pl0_loop (cx : Ctx) (lo : Nat) (H0 : Heap) (hlo : lo ≤ H0.next) (l : List Pc) (v : AV) (hR : Rd H0 v (l.map toPi)) (hp : ∀ p ∈ l, p.1 + p.2 ≤ 64) (hw : width l ≤ 64) (hl : l.length ≤ 64) :
    ∀ (m i : Nat) (H : Heap) (u : AV) {x1 x2 x5 x6 x7 x8 x9 x10 x11 x12 x13 x14 x15 x16 x17 x18 x19 x20 x21 x22 x23 x24 x25 x26 x27 x28 x29 x30 x31 : AV}, i + m = l.length → Ext H0 H → IntsO H0 H u (places (l.take i)) →
    Pl2 v l.length H0 (places l) (.exit 0) (om Try.prog cx lo (loopAt Try.f39 0) ⟨[v, x1, x2, u, .int .i64 i, x5, x6, x7, x8, x9, x10, x11, x12, x13, x14, x15, x16, x17, x18, x19, x20, x21, x22, x23, x24, x25, x26, x27, x28, x29, x30, x31], [], H⟩) := by
  have L := fun p i hi hpp ps0 hps H u => @pl2_loop cx lo H0 hlo (l.map toPi) v hR p i hi hpp ps0 hps p.2 0 H u
  simp -implicitDefEqProofs +decide only [loopAt, loopIn, firstC, Try.f39, Option.getD, if_true, if_false] at L ⊢
  intro m
  induction m with
  | zero =>
    intro i H u x1 x2 x5 x6 x7 x8 x9 x10 x11 x12 x13 x14 x15 x16 x17 x18 x19 x20 x21 x22 x23 x24 x25 x26 x27 x28 x29 x30 x31 hi x0 hu
    have hln := (hR.ext x0).len
    rw [List.length_map] at hln
    obtain rfl : i = l.length := by omega
    rw [List.take_length] at hu
    rw [oy_loop]
    simp -implicitDefEqProofs only [ox, ou, ko, ky, kn, kd, oy_seq, oy_ret, oy_exit, oy_skip, oy_cond, oy_block, oy_region, oy_draw, dr_eq, dre_some, stl_some, st_nil, st_op, ot, ov, os_same, sy_nil, sy_op, nxt_normal, nxt_ret, nxt_exit, blk_exit, blk_normal, blk_ret, reg_some, cnd_true, cnd_false, opr_some, grd_true, grd_false, fin_ret, fin_normal, finv_some, Region.wanted, opA, callV, aop, evalL, evalO, putE, binA, bi_add, bi_sub, bi_mul, bi_eql, bi_neq, bi_lss, bi_leq, bi_gtr, bi_geq, unA, ofVal, ofLeaf, resultsA, tupA, AV.rfL, AV.rf, yielded_yv, yv_bool, yv_undef, yv_none, og_n, List.replicate, Option.bind, heapFree, onlyReads, List.set, List.getD, List.getElem?_cons_succ, List.getElem?_cons_zero, Option.getD, Option.map, decide_true, decide_false, if_true, if_false, Bool.false_eq_true, Bool.not_true, Bool.not_false, beq_self_eq_true, Bool.true_and, Bool.and_true, Bool.and_self, Bool.false_and, Bool.and_false, Bool.true_or, Bool.or_true, Bool.false_or, Bool.or_false, Bool.or_self, List.length_cons, List.length_nil, List.cons_append, List.nil_append, ite_self, List.getElem?_toArray, Option.bind_some, Option.bind_none, og_tt, og_ff, og_tf, og_ft, Int.reduceBNe, Int.reduceBEq, Int.reduceLT, Int.reduceLE, hln, Int.lt_irrefl, Option.map]
    exact ⟨_, _, _, _, _, _, _, _, _, _, _, _, _, _, _, _, _, _, _, _, _, _, _, _, _, _, _, _, _, u, H, x0, hu, rfl⟩
  | succ m ih =>
    intro i H u x1 x2 x5 x6 x7 x8 x9 x10 x11 x12 x13 x14 x15 x16 x17 x18 x19 x20 x21 x22 x23 x24 x25 x26 x27 x28 x29 x30 x31 hi x0 hu
    have hln := (hR.ext x0).len
    rw [List.length_map] at hln
    have e1 : (i : Int) < (l.length : Int) := by omega
    have w3 : IntKind.i64.wrap ((i : Int) + 1) = ((i + 1 : Nat) : Int) := by rw [wi64 (by omega) (by omega)]; push_cast; rfl
    have hlt : i < l.length := by omega
    have hgi : (l.map toPi)[i]? = some (toPi l[i]) := by rw [List.getElem?_map, List.getElem?_eq_getElem hlt]; rfl
    have hmem : l[i] ∈ l := List.getElem_mem hlt
    have hpl : (places (l.take i)).length ≤ 64 := by
      have : places l = places (l.take i) ++ places (l.drop i) := by
        rw [places, places, places, ← List.flatMap_append, List.take_append_drop]
      have h2 : (places l).length = (places (l.take i)).length + (places (l.drop i)).length := by rw [this, List.length_append]
      unfold width at hw; omega
    rw [oy_loop]
    simp -implicitDefEqProofs only [ox, ou, ko, ky, kn, kd, oy_seq, oy_ret, oy_exit, oy_skip, oy_cond, oy_block, oy_region, oy_draw, dr_eq, dre_some, stl_some, st_nil, st_op, ot, ov, os_same, sy_nil, sy_op, nxt_normal, nxt_ret, nxt_exit, blk_exit, blk_normal, blk_ret, reg_some, cnd_true, cnd_false, opr_some, grd_true, grd_false, fin_ret, fin_normal, finv_some, Region.wanted, opA, callV, aop, evalL, evalO, putE, binA, bi_add, bi_sub, bi_mul, bi_eql, bi_neq, bi_lss, bi_leq, bi_gtr, bi_geq, unA, ofVal, ofLeaf, resultsA, tupA, AV.rfL, AV.rf, yielded_yv, yv_bool, yv_undef, yv_none, og_n, List.replicate, Option.bind, heapFree, onlyReads, List.set, List.getD, List.getElem?_cons_succ, List.getElem?_cons_zero, Option.getD, Option.map, decide_true, decide_false, if_true, if_false, Bool.false_eq_true, Bool.not_true, Bool.not_false, beq_self_eq_true, Bool.true_and, Bool.and_true, Bool.and_self, Bool.false_and, Bool.and_false, Bool.true_or, Bool.or_true, Bool.false_or, Bool.or_false, Bool.or_self, List.length_cons, List.length_nil, List.cons_append, List.nil_append, ite_self, List.getElem?_toArray, Option.bind_some, Option.bind_none, og_tt, og_ff, og_tf, og_ft, Int.reduceBNe, Int.reduceBEq, Int.reduceLT, Int.reduceLE, hln, e1, Option.map]
    generalize hr : om Try.prog _ _ (Code.loop _) _ = r
    have P : Pl2 v i H0 (places (l.take i) ++ run l[i]) (.exit 2) r := by
      rw [← hr]; exact L l[i] i hgi (hp _ hmem) (places (l.take i)) (by omega) H u (by first | trivial | omega) x0 (by simpa using hu)
    obtain ⟨y1, y2, y5, y6, y7, y8, y9, y10, y11, y12, y13, y14, y15, y16, y17, y18, y19, y20, y21, y22, y23, y24, y25, y26, y27, y28, y29, y30, y31, u', H', x1, hu', rfl⟩ := P
    clear hr
    simp -implicitDefEqProofs only [ox, ou, ko, ky, kn, kd, oy_seq, oy_ret, oy_exit, oy_skip, oy_cond, oy_block, oy_region, oy_draw, dr_eq, dre_some, stl_some, st_nil, st_op, ot, ov, os_same, sy_nil, sy_op, nxt_normal, nxt_ret, nxt_exit, blk_exit, blk_normal, blk_ret, reg_some, cnd_true, cnd_false, opr_some, grd_true, grd_false, fin_ret, fin_normal, finv_some, Region.wanted, opA, callV, aop, evalL, evalO, putE, binA, bi_add, bi_sub, bi_mul, bi_eql, bi_neq, bi_lss, bi_leq, bi_gtr, bi_geq, unA, ofVal, ofLeaf, resultsA, tupA, AV.rfL, AV.rf, yielded_yv, yv_bool, yv_undef, yv_none, og_n, List.replicate, Option.bind, heapFree, onlyReads, List.set, List.getD, List.getElem?_cons_succ, List.getElem?_cons_zero, Option.getD, Option.map, decide_true, decide_false, if_true, if_false, Bool.false_eq_true, Bool.not_true, Bool.not_false, beq_self_eq_true, Bool.true_and, Bool.and_true, Bool.and_self, Bool.false_and, Bool.and_false, Bool.true_or, Bool.or_true, Bool.false_or, Bool.or_false, Bool.or_self, List.length_cons, List.length_nil, List.cons_append, List.nil_append, ite_self, List.getElem?_toArray, Option.bind_some, Option.bind_none, og_tt, og_ff, og_tf, og_ft, Int.reduceBNe, Int.reduceBEq, Int.reduceLT, Int.reduceLE, w3]
    refine ih (i + 1) H' u' (by omega) x1 ?_
    rw [List.take_succ_eq_append_getElem hlt, places_snoc]; exact hu'
set_option maxHeartbeats 4000000 in
theorem places_run (l : List Pc) (v : AV) (lo : Nat) (H : Heap) (hlo : lo ≤ H.next) (hR : Rd H v (l.map toPi)) (hp : ∀ p ∈ l, p.1 + p.2 ≤ 64) (hw : width l ≤ 64) (hl : l.length ≤ 64) :
    ∃ u H', callA Try.prog (om Try.prog) lo 39 [v] H = some (u, H') ∧ Ext H H' ∧ Ints H' u (places l) := by
  rw [call_eq Try.func39 rfl rfl]
  have hlo' := lo_le (own := AV.rfL [v]) hlo
  generalize (if AV.rfL [v] = true then H.next else lo) = lo' at hlo' ⊢
  generalize AV.rfL [v] = own
  have L := fun cx => @pl0_loop cx lo' H hlo' l v hR hp hw hl l.length 0 H
  simp -implicitDefEqProofs +decide only [loopAt, loopIn, firstC, Try.f39, Option.getD, if_true, if_false] at L
  simp -implicitDefEqProofs only [Try.f39]
  simp -implicitDefEqProofs only [ox, ou, ko, ky, kn, kd, oy_seq, oy_ret, oy_exit, oy_skip, oy_cond, oy_block, oy_region, oy_draw, dr_eq, dre_some, stl_some, st_nil, st_op, ot, ov, os_same, sy_nil, sy_op, nxt_normal, nxt_ret, nxt_exit, blk_exit, blk_normal, blk_ret, reg_some, cnd_true, cnd_false, opr_some, grd_true, grd_false, fin_ret, fin_normal, finv_some, Region.wanted, opA, callV, aop, evalL, evalO, putE, binA, bi_add, bi_sub, bi_mul, bi_eql, bi_neq, bi_lss, bi_leq, bi_gtr, bi_geq, unA, ofVal, ofLeaf, resultsA, tupA, AV.rfL, AV.rf, yielded_yv, yv_bool, yv_undef, yv_none, og_n, List.replicate, Option.bind, heapFree, onlyReads, List.set, List.getD, List.getElem?_cons_succ, List.getElem?_cons_zero, Option.getD, Option.map, decide_true, decide_false, if_true, if_false, Bool.false_eq_true, Bool.not_true, Bool.not_false, beq_self_eq_true, Bool.true_and, Bool.and_true, Bool.and_self, Bool.false_and, Bool.and_false, Bool.true_or, Bool.or_true, Bool.false_or, Bool.or_false, Bool.or_self, List.length_cons, List.length_nil, List.cons_append, List.nil_append, ite_self, List.getElem?_toArray, Option.bind_some, Option.bind_none, og_tt, og_ff, og_tf, og_ft, Int.reduceBNe, Int.reduceBEq, Int.reduceLT, Int.reduceLE]
  generalize hr : om Try.prog _ _ (Code.loop _) _ = r
  have P : Pl2 v l.length H (places l) (.exit 0) r := by
    rw [← hr]; exact L _ _ (by simp) (Ext.refl H) (.inl ⟨⟨_, rfl⟩, by simp [places]⟩)
  obtain ⟨y1, y2, y5, y6, y7, y8, y9, y10, y11, y12, y13, y14, y15, y16, y17, y18, y19, y20, y21, y22, y23, y24, y25, y26, y27, y28, y29, y30, y31, u, H', x, hu, rfl⟩ := P
  clear hr L
  simp -implicitDefEqProofs only [ox, ou, ko, ky, kn, kd, oy_seq, oy_ret, oy_exit, oy_skip, oy_cond, oy_block, oy_region, oy_draw, dr_eq, dre_some, stl_some, st_nil, st_op, ot, ov, os_same, sy_nil, sy_op, nxt_normal, nxt_ret, nxt_exit, blk_exit, blk_normal, blk_ret, reg_some, cnd_true, cnd_false, opr_some, grd_true, grd_false, fin_ret, fin_normal, finv_some, Region.wanted, opA, callV, aop, evalL, evalO, putE, binA, bi_add, bi_sub, bi_mul, bi_eql, bi_neq, bi_lss, bi_leq, bi_gtr, bi_geq, unA, ofVal, ofLeaf, resultsA, tupA, AV.rfL, AV.rf, yielded_yv, yv_bool, yv_undef, yv_none, og_n, List.replicate, Option.bind, heapFree, onlyReads, List.set, List.getD, List.getElem?_cons_succ, List.getElem?_cons_zero, Option.getD, Option.map, decide_true, decide_false, if_true, if_false, Bool.false_eq_true, Bool.not_true, Bool.not_false, beq_self_eq_true, Bool.true_and, Bool.and_true, Bool.and_self, Bool.false_and, Bool.and_false, Bool.true_or, Bool.or_true, Bool.false_or, Bool.or_false, Bool.or_self, List.length_cons, List.length_nil, List.cons_append, List.nil_append, ite_self, List.getElem?_toArray, Option.bind_some, Option.bind_none, og_tt, og_ff, og_tf, og_ft, Int.reduceBNe, Int.reduceBEq, Int.reduceLT, Int.reduceLE]
  have hi := hu.ints
  by_cases ho : (own && u.rf) = true
  · refine ⟨u, H, if_pos ho, Ext.refl H, ?_⟩
    rcases hu with ⟨⟨sz, rfl⟩, he⟩ | ⟨b, _, _, rfl, _⟩
    · exact .inl ⟨sz, rfl, he⟩
    · simp [AV.rf] at ho
  · exact ⟨u, H', if_neg ho, x, hi⟩
end Go.Proofs.Ytlbkcdfllglddaa.fmt
/-! Mask, Get and Put of the reference: the interpreter's runs. Conditions: in each statement. -/
namespace Go.Proofs.Ytlbkcdfllglddaa.fmt
open Go Go.Ab
set_option maxRecDepth 100000
set_option linter.unusedSimpArgs false
set_option linter.unusedVariables false
attribute [local simp] ox ou ko ky kn kd oy_seq oy_ret oy_exit oy_skip oy_cond oy_block oy_region oy_draw dr_eq dre_some stl_some st_nil st_op ot ov os_same sy_nil sy_op nxt_normal nxt_ret nxt_exit blk_exit blk_normal blk_ret reg_some cnd_true cnd_false opr_some grd_true grd_false fin_ret fin_normal finv_some Region.wanted opA callV aop evalL evalO putE binA bi_add bi_sub bi_mul bi_eql bi_neq bi_lss bi_leq bi_gtr bi_geq unA ofVal ofLeaf resultsA tupA AV.rfL AV.rf yielded_yv yv_bool yv_undef yv_none og_n List.replicate Option.bind heapFree onlyReads
def natl (l : List Pi) : List Pc := l.map fun p => (p.1.toNat, p.2.toNat)
theorem natl_map (l : List Pc) : natl (l.map toPi) = l := by
  unfold natl toPi; rw [List.map_map]
  conv => rhs; rw [← List.map_id l]
  exact List.map_congr_left fun p _ => by simp
def maskT (size : Int) (l : List Pi) : AV := if chkE size l = 0 then .tup [.int .u64 (orP (places (natl l)) : Nat), .int .i64 0] else .tup [.int .u64 0, .int .i64 (chkE size l)]
def getT (size : Int) (word : Nat) (l : List Pi) : AV := if chkE size l = 0 then (if word < 2 ^ size.toNat then .tup [.int .u64 (getF (places (natl l)) word : Nat), .int .i64 0] else .tup [.int .u64 0, .int .i64 24]) else .tup [.int .u64 0, .int .i64 (chkE size l)]
def putT (size : Int) (word : Nat) (l : List Pi) (f : Nat) : AV := if chkE size l = 0 then (if word < 2 ^ size.toNat ∧ f < 2 ^ width (natl l) then .tup [.int .u64 (putF (places (natl l)) word f : Nat), .int .i64 0] else .tup [.int .u64 0, .int .i64 24]) else .tup [.int .u64 0, .int .i64 (chkE size l)]
theorem chk_ok {size : Int} {l : List Pi} (h : chkE size l = 0) : ∃ (n : Nat) (lN : List Pc), size = n ∧ 1 ≤ n ∧ n ≤ 64 ∧ l = lN.map toPi ∧ Lay n lN ∧ lN.length ≤ 4 := by
  unfold chkE at h
  split at h
  · rename_i hs
    simp only [Bool.and_eq_true, decide_eq_true_eq] at hs
    split at h
    · omega
    · rename_i hl
      split at h
      · rename_i hk
        obtain ⟨n, rfl⟩ := Int.eq_ofNat_of_zero_le (show 0 ≤ size by omega)
        obtain ⟨lN, rfl, hL⟩ := okFrom_lay l [] (Lay.nil n) hk
        exact ⟨n, lN, rfl, by omega, by omega, rfl, by simpa using hL, by simpa using hl⟩
      · omega
  · omega
theorem chk_range (size : Int) (l : List Pi) : chkE size l = 0 ∨ chkE size l = 2 ∨ chkE size l = 4 ∨ chkE size l = 8 := by
  unfold chkE; split
  · split
    · simp
    · split <;> simp
  · simp
theorem Lay.at64 {n : Nat} {l : List Pc} (h : Lay n l) (hn : n ≤ 64) : (∀ p ∈ l, p.1 + p.2 ≤ 64) ∧ width l ≤ 64 ∧ (∀ i ∈ places l, i < 64) :=
  ⟨fun p hp => by have := h.1 p hp; omega, by have := h.width_le; omega, fun i hi => by have := h.lt i hi; omega⟩
theorem take_snoc' {α : Type} {l : List α} {i : Nat} {p : α} (h : l[i]? = some p) : l.take (i + 1) = l.take i ++ [p] := by
  obtain ⟨h1, rfl⟩ := List.getElem?_eq_some_iff.1 h
  rw [List.take_succ_eq_append_getElem h1]
theorem nodup_not {ps : List Nat} (h : ps.Nodup) {i p : Nat} (hi : ps[i]? = some p) : p ∉ ps.take i := by
  obtain ⟨h1, e⟩ := List.getElem?_eq_some_iff.1 hi
  have h2 : ps = ps.take i ++ p :: ps.drop (i + 1) := by
    conv => lhs; rw [← List.take_append_drop i ps, List.drop_eq_getElem_cons h1, e]
  rw [h2, List.nodup_append] at h
  intro hm
  exact h.2.2 p hm p (by simp) rfl
def Ma2 (u : AV) (m : Nat) (H : Heap) (e : Option (Ex × St)) : Prop := ∃ (y0 y1 y2 y3 y6 y7 y9 y10 y11 y12 y13 y14 y15 y16 y17 y18 y19 y20 y21 y22 y23 y24 y25 y26 y27 y28 y29 y30 y31 : AV), e = some (.exit 0, ⟨[y0, y1, y2, y3, .int .u64 0, .int .i64 0, y6, y7, .int .u64 (m : Int), y9, y10, y11, y12, y13, y14, y15, y16, y17, y18, y19, y20, y21, y22, y23, y24, y25, y26, y27, y28, y29, y30, y31], [], H⟩)
set_option maxHeartbeats 4000000 in
theorem ma2_loop (cx : Ctx) (lo : Nat) (H : Heap) (ps : List Nat) (hn : ps.Nodup) (hlt : ∀ p ∈ ps, p < 64) (u : AV) (hu : Ints H u ps) (hlen : ps.length ≤ 64) :
    ∀ (m i : Nat) {x0 x1 x2 x3 x6 x10 x11 x12 x13 x14 x15 x16 x17 x18 x19 x20 x21 x22 x23 x24 x25 x26 x27 x28 x29 x30 x31 : AV}, i + m = ps.length →
    Ma2 u (orP ps) H (om Try.prog cx lo (loopAt Try.f21 0) ⟨[x0, x1, x2, x3, .int .u64 0, .int .i64 0, x6, u, .int .u64 (orP (ps.take i) : Nat), .int .i64 i, x10, x11, x12, x13, x14, x15, x16, x17, x18, x19, x20, x21, x22, x23, x24, x25, x26, x27, x28, x29, x30, x31], [], H⟩) := by
  simp -implicitDefEqProofs +decide only [loopAt, loopIn, firstC, Try.f21, Option.getD, if_true, if_false]
  have hln := hu.len
  intro m
  induction m with
  | zero =>
    intro i x0 x1 x2 x3 x6 x10 x11 x12 x13 x14 x15 x16 x17 x18 x19 x20 x21 x22 x23 x24 x25 x26 x27 x28 x29 x30 x31 hi
    obtain rfl : i = ps.length := by omega
    rw [oy_loop, List.take_length]
    simp -implicitDefEqProofs only [ox, ou, ko, ky, kn, kd, oy_seq, oy_ret, oy_exit, oy_skip, oy_cond, oy_block, oy_region, oy_draw, dr_eq, dre_some, stl_some, st_nil, st_op, ot, ov, os_same, sy_nil, sy_op, nxt_normal, nxt_ret, nxt_exit, blk_exit, blk_normal, blk_ret, reg_some, cnd_true, cnd_false, opr_some, grd_true, grd_false, fin_ret, fin_normal, finv_some, Region.wanted, opA, callV, aop, evalL, evalO, putE, binA, bi_add, bi_sub, bi_mul, bi_eql, bi_neq, bi_lss, bi_leq, bi_gtr, bi_geq, unA, ofVal, ofLeaf, resultsA, tupA, AV.rfL, AV.rf, yielded_yv, yv_bool, yv_undef, yv_none, og_n, List.replicate, Option.bind, heapFree, onlyReads, List.set, List.getD, List.getElem?_cons_succ, List.getElem?_cons_zero, Option.getD, Option.map, decide_true, decide_false, if_true, if_false, Bool.false_eq_true, Bool.not_true, Bool.not_false, beq_self_eq_true, Bool.true_and, Bool.and_true, Bool.and_self, Bool.false_and, Bool.and_false, Bool.true_or, Bool.or_true, Bool.false_or, Bool.or_false, Bool.or_self, List.length_cons, List.length_nil, List.cons_append, List.nil_append, ite_self, List.getElem?_toArray, Option.bind_some, Option.bind_none, og_tt, og_ff, og_tf, og_ft, Int.reduceBNe, Int.reduceBEq, Int.reduceLT, Int.reduceLE, hln, Int.lt_irrefl, Option.map]
    exact ⟨_, _, _, _, _, _, _, _, _, _, _, _, _, _, _, _, _, _, _, _, _, _, _, _, _, _, _, _, _, rfl⟩
  | succ m ih =>
    intro i x0 x1 x2 x3 x6 x10 x11 x12 x13 x14 x15 x16 x17 x18 x19 x20 x21 x22 x23 x24 x25 x26 x27 x28 x29 x30 x31 hi
    have e1 : (i : Int) < (ps.length : Int) := by omega
    obtain ⟨p, hp⟩ : ∃ p, ps[i]? = some p := ⟨ps[i]'(by omega), List.getElem?_eq_getElem (by omega)⟩
    obtain ⟨q, i1, i2⟩ := hu.at hp
    have hp64 := hlt p (List.mem_of_getElem? hp)
    have w3 : IntKind.i64.wrap ((i : Int) + 1) = ((i + 1 : Nat) : Int) := by rw [wi64 (by omega) (by omega)]; push_cast; rfl
    have hs := orP_snoc (ps.take i) p (nodup_not hn hp)
    rw [← take_snoc' hp] at hs
    have hb : orP (ps.take (i + 1)) < 2 ^ 64 := orP_lt fun q hq => hlt q (List.mem_of_mem_take hq)
    have w1 : IntKind.u64.wrap (((orP (ps.take i) : Nat) : Int) + ((2 ^ p : Nat) : Int)) = ((orP (ps.take (i + 1)) : Nat) : Int) := by
      rw [← Int.natCast_add, ← hs]; exact wrap_u64_lt hb
    rw [oy_loop]
    simp -implicitDefEqProofs only [ox, ou, ko, ky, kn, kd, oy_seq, oy_ret, oy_exit, oy_skip, oy_cond, oy_block, oy_region, oy_draw, dr_eq, dre_some, stl_some, st_nil, st_op, ot, ov, os_same, sy_nil, sy_op, nxt_normal, nxt_ret, nxt_exit, blk_exit, blk_normal, blk_ret, reg_some, cnd_true, cnd_false, opr_some, grd_true, grd_false, fin_ret, fin_normal, finv_some, Region.wanted, opA, callV, aop, evalL, evalO, putE, binA, bi_add, bi_sub, bi_mul, bi_eql, bi_neq, bi_lss, bi_leq, bi_gtr, bi_geq, unA, ofVal, ofLeaf, resultsA, tupA, AV.rfL, AV.rf, yielded_yv, yv_bool, yv_undef, yv_none, og_n, List.replicate, Option.bind, heapFree, onlyReads, List.set, List.getD, List.getElem?_cons_succ, List.getElem?_cons_zero, Option.getD, Option.map, decide_true, decide_false, if_true, if_false, Bool.false_eq_true, Bool.not_true, Bool.not_false, beq_self_eq_true, Bool.true_and, Bool.and_true, Bool.and_self, Bool.false_and, Bool.and_false, Bool.true_or, Bool.or_true, Bool.false_or, Bool.or_false, Bool.or_self, List.length_cons, List.length_nil, List.cons_append, List.nil_append, ite_self, List.getElem?_toArray, Option.bind_some, Option.bind_none, og_tt, og_ff, og_tf, og_ft, Int.reduceBNe, Int.reduceBEq, Int.reduceLT, Int.reduceLE, hln, e1, i1, i2, value_run p (by omega), w1, w3, Option.map]
    exact ih (i + 1) (by omega)
theorem if_out2 {own : Bool} {H H1 : Heap} {r : AV} (x : Ext H H1) : ∃ H', (if own = true then some (r, H) else some (r, H1)) = some (r, H') ∧ Ext H H' := if_out x
set_option maxHeartbeats 4000000 in
theorem refMask_run (size : Int) (l : List Pi) (v : AV) (lo : Nat) (H : Heap) (hR : Rd H v l) (hlo : lo ≤ H.next) (hl : l.length ≤ 1000) :
    ∃ H', callA Try.prog (om Try.prog) lo 21 [.int .i64 size, v] H = some (maskT size l, H') ∧ Ext H H' := by
  rw [call_eq Try.func21 rfl rfl]
  have hlo' := lo_le (own := AV.rfL [.int .i64 size, v]) hlo
  generalize (if AV.rfL [.int .i64 size, v] = true then H.next else lo) = lo' at hlo' ⊢
  generalize AV.rfL [.int .i64 size, v] = own
  have hc := fun lo => refCheck_run size l v lo H hR hl
  unfold maskT
  by_cases h0 : chkE size l = 0
  · rw [if_pos h0]
    rw [h0] at hc
    obtain ⟨n, lN, rfl, h1, h2, rfl, hL, h4⟩ := chk_ok h0
    obtain ⟨a1, a2, a3⟩ := hL.at64 h2
    obtain ⟨u, H1, r1, x1, hu⟩ := places_run lN v lo' H hlo' hR a1 a2 (by omega)
    have L := fun cx lo => @ma2_loop cx lo H1 (places lN) hL.2 a3 u hu a2 (places lN).length 0
    simp -implicitDefEqProofs +decide only [loopAt, loopIn, firstC, Try.f21, Option.getD, if_true, if_false] at L
    simp -implicitDefEqProofs only [Try.f21]
    simp -implicitDefEqProofs only [ox, ou, ko, ky, kn, kd, oy_seq, oy_ret, oy_exit, oy_skip, oy_cond, oy_block, oy_region, oy_draw, dr_eq, dre_some, stl_some, st_nil, st_op, ot, ov, os_same, sy_nil, sy_op, nxt_normal, nxt_ret, nxt_exit, blk_exit, blk_normal, blk_ret, reg_some, cnd_true, cnd_false, opr_some, grd_true, grd_false, fin_ret, fin_normal, finv_some, Region.wanted, opA, callV, aop, evalL, evalO, putE, binA, bi_add, bi_sub, bi_mul, bi_eql, bi_neq, bi_lss, bi_leq, bi_gtr, bi_geq, unA, ofVal, ofLeaf, resultsA, tupA, AV.rfL, AV.rf, yielded_yv, yv_bool, yv_undef, yv_none, og_n, List.replicate, Option.bind, heapFree, onlyReads, List.set, List.getD, List.getElem?_cons_succ, List.getElem?_cons_zero, Option.getD, Option.map, decide_true, decide_false, if_true, if_false, Bool.false_eq_true, Bool.not_true, Bool.not_false, beq_self_eq_true, Bool.true_and, Bool.and_true, Bool.and_self, Bool.false_and, Bool.and_false, Bool.true_or, Bool.or_true, Bool.false_or, Bool.or_false, Bool.or_self, List.length_cons, List.length_nil, List.cons_append, List.nil_append, ite_self, List.getElem?_toArray, Option.bind_some, Option.bind_none, og_tt, og_ff, og_tf, og_ft, Int.reduceBNe, Int.reduceBEq, Int.reduceLT, Int.reduceLE, hc, r1]
    generalize hr : om Try.prog _ _ (Code.loop _) _ = r
    have P : Ma2 u (orP (places lN)) H1 r := by rw [← hr]; exact L _ _ (by simp)
    obtain ⟨y0, y1, y2, y3, y6, y7, y9, y10, y11, y12, y13, y14, y15, y16, y17, y18, y19, y20, y21, y22, y23, y24, y25, y26, y27, y28, y29, y30, y31, rfl⟩ := P
    clear hr L
    simp -implicitDefEqProofs only [ox, ou, ko, ky, kn, kd, oy_seq, oy_ret, oy_exit, oy_skip, oy_cond, oy_block, oy_region, oy_draw, dr_eq, dre_some, stl_some, st_nil, st_op, ot, ov, os_same, sy_nil, sy_op, nxt_normal, nxt_ret, nxt_exit, blk_exit, blk_normal, blk_ret, reg_some, cnd_true, cnd_false, opr_some, grd_true, grd_false, fin_ret, fin_normal, finv_some, Region.wanted, opA, callV, aop, evalL, evalO, putE, binA, bi_add, bi_sub, bi_mul, bi_eql, bi_neq, bi_lss, bi_leq, bi_gtr, bi_geq, unA, ofVal, ofLeaf, resultsA, tupA, AV.rfL, AV.rf, yielded_yv, yv_bool, yv_undef, yv_none, og_n, List.replicate, Option.bind, heapFree, onlyReads, List.set, List.getD, List.getElem?_cons_succ, List.getElem?_cons_zero, Option.getD, Option.map, decide_true, decide_false, if_true, if_false, Bool.false_eq_true, Bool.not_true, Bool.not_false, beq_self_eq_true, Bool.true_and, Bool.and_true, Bool.and_self, Bool.false_and, Bool.and_false, Bool.true_or, Bool.or_true, Bool.false_or, Bool.or_false, Bool.or_self, List.length_cons, List.length_nil, List.cons_append, List.nil_append, ite_self, List.getElem?_toArray, Option.bind_some, Option.bind_none, og_tt, og_ff, og_tf, og_ft, Int.reduceBNe, Int.reduceBEq, Int.reduceLT, Int.reduceLE, natl_map]
    exact if_out x1
  · rw [if_neg h0]
    have hne : (chkE size l != 0) = true := by simp [h0]
    simp -implicitDefEqProofs only [Try.f21]
    simp -implicitDefEqProofs only [ox, ou, ko, ky, kn, kd, oy_seq, oy_ret, oy_exit, oy_skip, oy_cond, oy_block, oy_region, oy_draw, dr_eq, dre_some, stl_some, st_nil, st_op, ot, ov, os_same, sy_nil, sy_op, nxt_normal, nxt_ret, nxt_exit, blk_exit, blk_normal, blk_ret, reg_some, cnd_true, cnd_false, opr_some, grd_true, grd_false, fin_ret, fin_normal, finv_some, Region.wanted, opA, callV, aop, evalL, evalO, putE, binA, bi_add, bi_sub, bi_mul, bi_eql, bi_neq, bi_lss, bi_leq, bi_gtr, bi_geq, unA, ofVal, ofLeaf, resultsA, tupA, AV.rfL, AV.rf, yielded_yv, yv_bool, yv_undef, yv_none, og_n, List.replicate, Option.bind, heapFree, onlyReads, List.set, List.getD, List.getElem?_cons_succ, List.getElem?_cons_zero, Option.getD, Option.map, decide_true, decide_false, if_true, if_false, Bool.false_eq_true, Bool.not_true, Bool.not_false, beq_self_eq_true, Bool.true_and, Bool.and_true, Bool.and_self, Bool.false_and, Bool.and_false, Bool.true_or, Bool.or_true, Bool.false_or, Bool.or_false, Bool.or_self, List.length_cons, List.length_nil, List.cons_append, List.nil_append, ite_self, List.getElem?_toArray, Option.bind_some, Option.bind_none, og_tt, og_ff, og_tf, og_ft, Int.reduceBNe, Int.reduceBEq, Int.reduceLT, Int.reduceLE, hc, hne]
    exact ⟨H, by first | rfl | exact ite_self _, Ext.refl H⟩
def Ge2 (f : Nat) (H : Heap) (e : Option (Ex × St)) : Prop := ∃ (y0 y1 y2 y3 y4 y5 y8 y9 y11 y12 y13 y14 y15 y16 y17 y18 y19 y20 y21 y22 y23 y24 y25 y26 y27 y28 y29 y30 y31 y32 y33 y34 y35 y36 y37 y38 y39 y40 y41 y42 y43 y44 y45 : AV), e = some (.exit 0, ⟨[y0, y1, y2, y3, y4, y5, .int .u64 0, .int .i64 0, y8, y9, .int .u64 (f : Int), y11, y12, y13, y14, y15, y16, y17, y18, y19, y20, y21, y22, y23, y24, y25, y26, y27, y28, y29, y30, y31, y32, y33, y34, y35, y36, y37, y38, y39, y40, y41, y42, y43, y44, y45], [], H⟩)
theorem bit_eq (x p : Nat) : (((x / 2 ^ p % 2 : Nat) : Int) == 1) = x.testBit p := by
  rw [Nat.testBit_eq_decide_div_mod_eq, Bool.eq_iff_iff]
  simp only [beq_iff_eq, decide_eq_true_eq]
  generalize x / 2 ^ p % 2 = z
  omega
set_option maxHeartbeats 4000000 in
theorem ge2_loop (cx : Ctx) (lo : Nat) (H : Heap) (w : Nat) (hw : w < 2 ^ 64) (ps : List Nat) (hlt : ∀ p ∈ ps, p < 64) (u : AV) (hu : Ints H u ps) (hlen : ps.length ≤ 64) :
    ∀ (m i : Nat) {x0 x2 x3 x4 x5 x8 x12 x13 x14 x15 x16 x17 x18 x19 x20 x21 x22 x23 x24 x25 x26 x27 x28 x29 x30 x31 x32 x33 x34 x35 x36 x37 x38 x39 x40 x41 x42 x43 x44 x45 : AV}, i + m = ps.length →
    Ge2 (getF ps w) H (om Try.prog cx lo (loopAt Try.f25 0) ⟨[x0, .int .u64 w, x2, x3, x4, x5, .int .u64 0, .int .i64 0, x8, u, .int .u64 (getF (ps.take i) w : Nat), .int .i64 i, x12, x13, x14, x15, x16, x17, x18, x19, x20, x21, x22, x23, x24, x25, x26, x27, x28, x29, x30, x31, x32, x33, x34, x35, x36, x37, x38, x39, x40, x41, x42, x43, x44, x45], [], H⟩) := by
  simp -implicitDefEqProofs +decide only [loopAt, loopIn, firstC, Try.f25, Option.getD, if_true, if_false]
  have hln := hu.len
  intro m
  induction m with
  | zero =>
    intro i x0 x2 x3 x4 x5 x8 x12 x13 x14 x15 x16 x17 x18 x19 x20 x21 x22 x23 x24 x25 x26 x27 x28 x29 x30 x31 x32 x33 x34 x35 x36 x37 x38 x39 x40 x41 x42 x43 x44 x45 hi
    obtain rfl : i = ps.length := by omega
    rw [oy_loop, List.take_length]
    simp -implicitDefEqProofs only [ox, ou, ko, ky, kn, kd, oy_seq, oy_ret, oy_exit, oy_skip, oy_cond, oy_block, oy_region, oy_draw, dr_eq, dre_some, stl_some, st_nil, st_op, ot, ov, os_same, sy_nil, sy_op, nxt_normal, nxt_ret, nxt_exit, blk_exit, blk_normal, blk_ret, reg_some, cnd_true, cnd_false, opr_some, grd_true, grd_false, fin_ret, fin_normal, finv_some, Region.wanted, opA, callV, aop, evalL, evalO, putE, binA, bi_add, bi_sub, bi_mul, bi_eql, bi_neq, bi_lss, bi_leq, bi_gtr, bi_geq, unA, ofVal, ofLeaf, resultsA, tupA, AV.rfL, AV.rf, yielded_yv, yv_bool, yv_undef, yv_none, og_n, List.replicate, Option.bind, heapFree, onlyReads, List.set, List.getD, List.getElem?_cons_succ, List.getElem?_cons_zero, Option.getD, Option.map, decide_true, decide_false, if_true, if_false, Bool.false_eq_true, Bool.not_true, Bool.not_false, beq_self_eq_true, Bool.true_and, Bool.and_true, Bool.and_self, Bool.false_and, Bool.and_false, Bool.true_or, Bool.or_true, Bool.false_or, Bool.or_false, Bool.or_self, List.length_cons, List.length_nil, List.cons_append, List.nil_append, ite_self, List.getElem?_toArray, Option.bind_some, Option.bind_none, og_tt, og_ff, og_tf, og_ft, Int.reduceBNe, Int.reduceBEq, Int.reduceLT, Int.reduceLE, hln, Int.lt_irrefl, Option.map]
    exact ⟨_, _, _, _, _, _, _, _, _, _, _, _, _, _, _, _, _, _, _, _, _, _, _, _, _, _, _, _, _, _, _, _, _, _, _, _, _, _, _, _, _, _, _, rfl⟩
  | succ m ih =>
    intro i x0 x2 x3 x4 x5 x8 x12 x13 x14 x15 x16 x17 x18 x19 x20 x21 x22 x23 x24 x25 x26 x27 x28 x29 x30 x31 x32 x33 x34 x35 x36 x37 x38 x39 x40 x41 x42 x43 x44 x45 hi
    have e1 : (i : Int) < (ps.length : Int) := by omega
    obtain ⟨p, hp⟩ : ∃ p, ps[i]? = some p := ⟨ps[i]'(by omega), List.getElem?_eq_getElem (by omega)⟩
    obtain ⟨q, i1, i2⟩ := hu.at hp
    have hp64 := hlt p (List.mem_of_getElem? hp)
    have w3 : IntKind.i64.wrap ((i : Int) + 1) = ((i + 1 : Nat) : Int) := by rw [wi64 (by omega) (by omega)]; push_cast; rfl
    have hs := getF_snoc w (ps.take i) p
    rw [← take_snoc' hp, List.length_take, Nat.min_eq_left (by omega)] at hs
    have hb : getF (ps.take (i + 1)) w < 2 ^ 64 := Nat.lt_of_lt_of_le (getF_lt w _) (two_pow_le (by rw [List.length_take]; omega))
    rw [oy_loop]
    cases hbit : w.testBit p with
    | true =>
      rw [hbit, if_pos rfl] at hs
      have w1 : IntKind.u64.wrap (((getF (ps.take i) w : Nat) : Int) + ((2 ^ i : Nat) : Int)) = ((getF (ps.take (i + 1)) w : Nat) : Int) := by
        rw [← Int.natCast_add, ← hs]; exact wrap_u64_lt hb
      simp -implicitDefEqProofs only [ox, ou, ko, ky, kn, kd, oy_seq, oy_ret, oy_exit, oy_skip, oy_cond, oy_block, oy_region, oy_draw, dr_eq, dre_some, stl_some, st_nil, st_op, ot, ov, os_same, sy_nil, sy_op, nxt_normal, nxt_ret, nxt_exit, blk_exit, blk_normal, blk_ret, reg_some, cnd_true, cnd_false, opr_some, grd_true, grd_false, fin_ret, fin_normal, finv_some, Region.wanted, opA, callV, aop, evalL, evalO, putE, binA, bi_add, bi_sub, bi_mul, bi_eql, bi_neq, bi_lss, bi_leq, bi_gtr, bi_geq, unA, ofVal, ofLeaf, resultsA, tupA, AV.rfL, AV.rf, yielded_yv, yv_bool, yv_undef, yv_none, og_n, List.replicate, Option.bind, heapFree, onlyReads, List.set, List.getD, List.getElem?_cons_succ, List.getElem?_cons_zero, Option.getD, Option.map, decide_true, decide_false, if_true, if_false, Bool.false_eq_true, Bool.not_true, Bool.not_false, beq_self_eq_true, Bool.true_and, Bool.and_true, Bool.and_self, Bool.false_and, Bool.and_false, Bool.true_or, Bool.or_true, Bool.false_or, Bool.or_false, Bool.or_self, List.length_cons, List.length_nil, List.cons_append, List.nil_append, ite_self, List.getElem?_toArray, Option.bind_some, Option.bind_none, og_tt, og_ff, og_tf, og_ft, Int.reduceBNe, Int.reduceBEq, Int.reduceLT, Int.reduceLE, hln, e1, i1, i2, bit_run w p hw (by omega), bit_eq, hbit, value_run i (by omega), w1, w3, Option.map]
      exact ih (i + 1) (by omega)
    | false =>
      rw [hbit] at hs
      simp only [Bool.false_eq_true, if_false, Nat.add_zero] at hs
      simp -implicitDefEqProofs only [ox, ou, ko, ky, kn, kd, oy_seq, oy_ret, oy_exit, oy_skip, oy_cond, oy_block, oy_region, oy_draw, dr_eq, dre_some, stl_some, st_nil, st_op, ot, ov, os_same, sy_nil, sy_op, nxt_normal, nxt_ret, nxt_exit, blk_exit, blk_normal, blk_ret, reg_some, cnd_true, cnd_false, opr_some, grd_true, grd_false, fin_ret, fin_normal, finv_some, Region.wanted, opA, callV, aop, evalL, evalO, putE, binA, bi_add, bi_sub, bi_mul, bi_eql, bi_neq, bi_lss, bi_leq, bi_gtr, bi_geq, unA, ofVal, ofLeaf, resultsA, tupA, AV.rfL, AV.rf, yielded_yv, yv_bool, yv_undef, yv_none, og_n, List.replicate, Option.bind, heapFree, onlyReads, List.set, List.getD, List.getElem?_cons_succ, List.getElem?_cons_zero, Option.getD, Option.map, decide_true, decide_false, if_true, if_false, Bool.false_eq_true, Bool.not_true, Bool.not_false, beq_self_eq_true, Bool.true_and, Bool.and_true, Bool.and_self, Bool.false_and, Bool.and_false, Bool.true_or, Bool.or_true, Bool.false_or, Bool.or_false, Bool.or_self, List.length_cons, List.length_nil, List.cons_append, List.nil_append, ite_self, List.getElem?_toArray, Option.bind_some, Option.bind_none, og_tt, og_ff, og_tf, og_ft, Int.reduceBNe, Int.reduceBEq, Int.reduceLT, Int.reduceLE, hln, e1, i1, i2, bit_run w p hw (by omega), bit_eq, hbit, w3, Option.map]
      rw [← hs]
      exact ih (i + 1) (by omega)
set_option maxHeartbeats 4000000 in
theorem refGet_run (size : Int) (w : Nat) (hw : w < 2 ^ 64) (l : List Pi) (v : AV) (lo : Nat) (H : Heap) (hR : Rd H v l) (hlo : lo ≤ H.next) (hl : l.length ≤ 1000) :
    ∃ H', callA Try.prog (om Try.prog) lo 25 [.int .i64 size, .int .u64 w, v] H = some (getT size w l, H') ∧ Ext H H' := by
  rw [call_eq Try.func25 rfl rfl]
  have hlo' := lo_le (own := AV.rfL [.int .i64 size, .int .u64 w, v]) hlo
  generalize (if AV.rfL [.int .i64 size, .int .u64 w, v] = true then H.next else lo) = lo' at hlo' ⊢
  generalize AV.rfL [.int .i64 size, .int .u64 w, v] = own
  have hc := fun lo => refCheck_run size l v lo H hR hl
  unfold getT
  by_cases h0 : chkE size l = 0
  · rw [if_pos h0]
    rw [h0] at hc
    obtain ⟨n, lN, rfl, h1, h2, rfl, hL, h4⟩ := chk_ok h0
    obtain ⟨a1, a2, a3⟩ := hL.at64 h2
    have hbl := fun lo H => refBelow_run w n hw (by omega) lo H
    rw [Int.toNat_natCast]
    by_cases hwn : w < 2 ^ n
    · rw [if_pos hwn]
      simp only [hwn, decide_true] at hbl
      obtain ⟨u, H1, r1, x1, hu⟩ := places_run lN v lo' H hlo' hR a1 a2 (by omega)
      have L := fun cx lo => @ge2_loop cx lo H1 w hw (places lN) a3 u hu a2 (places lN).length 0
      simp -implicitDefEqProofs +decide only [loopAt, loopIn, firstC, Try.f25, Option.getD, if_true, if_false] at L
      simp -implicitDefEqProofs only [Try.f25]
      simp -implicitDefEqProofs only [ox, ou, ko, ky, kn, kd, oy_seq, oy_ret, oy_exit, oy_skip, oy_cond, oy_block, oy_region, oy_draw, dr_eq, dre_some, stl_some, st_nil, st_op, ot, ov, os_same, sy_nil, sy_op, nxt_normal, nxt_ret, nxt_exit, blk_exit, blk_normal, blk_ret, reg_some, cnd_true, cnd_false, opr_some, grd_true, grd_false, fin_ret, fin_normal, finv_some, Region.wanted, opA, callV, aop, evalL, evalO, putE, binA, bi_add, bi_sub, bi_mul, bi_eql, bi_neq, bi_lss, bi_leq, bi_gtr, bi_geq, unA, ofVal, ofLeaf, resultsA, tupA, AV.rfL, AV.rf, yielded_yv, yv_bool, yv_undef, yv_none, og_n, List.replicate, Option.bind, heapFree, onlyReads, List.set, List.getD, List.getElem?_cons_succ, List.getElem?_cons_zero, Option.getD, Option.map, decide_true, decide_false, if_true, if_false, Bool.false_eq_true, Bool.not_true, Bool.not_false, beq_self_eq_true, Bool.true_and, Bool.and_true, Bool.and_self, Bool.false_and, Bool.and_false, Bool.true_or, Bool.or_true, Bool.false_or, Bool.or_false, Bool.or_self, List.length_cons, List.length_nil, List.cons_append, List.nil_append, ite_self, List.getElem?_toArray, Option.bind_some, Option.bind_none, og_tt, og_ff, og_tf, og_ft, Int.reduceBNe, Int.reduceBEq, Int.reduceLT, Int.reduceLE, hc, hbl, r1]
      generalize hr : om Try.prog _ _ (Code.loop _) _ = r
      have P : Ge2 (getF (places lN) w) H1 r := by rw [← hr]; exact L _ _ (by simp)
      obtain ⟨y0, y1, y2, y3, y4, y5, y8, y9, y11, y12, y13, y14, y15, y16, y17, y18, y19, y20, y21, y22, y23, y24, y25, y26, y27, y28, y29, y30, y31, y32, y33, y34, y35, y36, y37, y38, y39, y40, y41, y42, y43, y44, y45, rfl⟩ := P
      clear hr L
      simp -implicitDefEqProofs only [ox, ou, ko, ky, kn, kd, oy_seq, oy_ret, oy_exit, oy_skip, oy_cond, oy_block, oy_region, oy_draw, dr_eq, dre_some, stl_some, st_nil, st_op, ot, ov, os_same, sy_nil, sy_op, nxt_normal, nxt_ret, nxt_exit, blk_exit, blk_normal, blk_ret, reg_some, cnd_true, cnd_false, opr_some, grd_true, grd_false, fin_ret, fin_normal, finv_some, Region.wanted, opA, callV, aop, evalL, evalO, putE, binA, bi_add, bi_sub, bi_mul, bi_eql, bi_neq, bi_lss, bi_leq, bi_gtr, bi_geq, unA, ofVal, ofLeaf, resultsA, tupA, AV.rfL, AV.rf, yielded_yv, yv_bool, yv_undef, yv_none, og_n, List.replicate, Option.bind, heapFree, onlyReads, List.set, List.getD, List.getElem?_cons_succ, List.getElem?_cons_zero, Option.getD, Option.map, decide_true, decide_false, if_true, if_false, Bool.false_eq_true, Bool.not_true, Bool.not_false, beq_self_eq_true, Bool.true_and, Bool.and_true, Bool.and_self, Bool.false_and, Bool.and_false, Bool.true_or, Bool.or_true, Bool.false_or, Bool.or_false, Bool.or_self, List.length_cons, List.length_nil, List.cons_append, List.nil_append, ite_self, List.getElem?_toArray, Option.bind_some, Option.bind_none, og_tt, og_ff, og_tf, og_ft, Int.reduceBNe, Int.reduceBEq, Int.reduceLT, Int.reduceLE, natl_map]
      exact if_out x1
    · rw [if_neg hwn]
      simp only [hwn, decide_false] at hbl
      simp -implicitDefEqProofs only [Try.f25]
      simp -implicitDefEqProofs only [ox, ou, ko, ky, kn, kd, oy_seq, oy_ret, oy_exit, oy_skip, oy_cond, oy_block, oy_region, oy_draw, dr_eq, dre_some, stl_some, st_nil, st_op, ot, ov, os_same, sy_nil, sy_op, nxt_normal, nxt_ret, nxt_exit, blk_exit, blk_normal, blk_ret, reg_some, cnd_true, cnd_false, opr_some, grd_true, grd_false, fin_ret, fin_normal, finv_some, Region.wanted, opA, callV, aop, evalL, evalO, putE, binA, bi_add, bi_sub, bi_mul, bi_eql, bi_neq, bi_lss, bi_leq, bi_gtr, bi_geq, unA, ofVal, ofLeaf, resultsA, tupA, AV.rfL, AV.rf, yielded_yv, yv_bool, yv_undef, yv_none, og_n, List.replicate, Option.bind, heapFree, onlyReads, List.set, List.getD, List.getElem?_cons_succ, List.getElem?_cons_zero, Option.getD, Option.map, decide_true, decide_false, if_true, if_false, Bool.false_eq_true, Bool.not_true, Bool.not_false, beq_self_eq_true, Bool.true_and, Bool.and_true, Bool.and_self, Bool.false_and, Bool.and_false, Bool.true_or, Bool.or_true, Bool.false_or, Bool.or_false, Bool.or_self, List.length_cons, List.length_nil, List.cons_append, List.nil_append, ite_self, List.getElem?_toArray, Option.bind_some, Option.bind_none, og_tt, og_ff, og_tf, og_ft, Int.reduceBNe, Int.reduceBEq, Int.reduceLT, Int.reduceLE, hc, hbl]
      exact ⟨H, by first | rfl | exact ite_self _, Ext.refl H⟩
  · rw [if_neg h0]
    have hne : (chkE size l != 0) = true := by simp [h0]
    have heq : (chkE size l == 0) = false := by simp [h0]
    simp -implicitDefEqProofs only [Try.f25]
    simp -implicitDefEqProofs only [ox, ou, ko, ky, kn, kd, oy_seq, oy_ret, oy_exit, oy_skip, oy_cond, oy_block, oy_region, oy_draw, dr_eq, dre_some, stl_some, st_nil, st_op, ot, ov, os_same, sy_nil, sy_op, nxt_normal, nxt_ret, nxt_exit, blk_exit, blk_normal, blk_ret, reg_some, cnd_true, cnd_false, opr_some, grd_true, grd_false, fin_ret, fin_normal, finv_some, Region.wanted, opA, callV, aop, evalL, evalO, putE, binA, bi_add, bi_sub, bi_mul, bi_eql, bi_neq, bi_lss, bi_leq, bi_gtr, bi_geq, unA, ofVal, ofLeaf, resultsA, tupA, AV.rfL, AV.rf, yielded_yv, yv_bool, yv_undef, yv_none, og_n, List.replicate, Option.bind, heapFree, onlyReads, List.set, List.getD, List.getElem?_cons_succ, List.getElem?_cons_zero, Option.getD, Option.map, decide_true, decide_false, if_true, if_false, Bool.false_eq_true, Bool.not_true, Bool.not_false, beq_self_eq_true, Bool.true_and, Bool.and_true, Bool.and_self, Bool.false_and, Bool.and_false, Bool.true_or, Bool.or_true, Bool.false_or, Bool.or_false, Bool.or_self, List.length_cons, List.length_nil, List.cons_append, List.nil_append, ite_self, List.getElem?_toArray, Option.bind_some, Option.bind_none, og_tt, og_ff, og_tf, og_ft, Int.reduceBNe, Int.reduceBEq, Int.reduceLT, Int.reduceLE, hc, hne, heq]
    exact ⟨H, by first | rfl | exact ite_self _, Ext.refl H⟩
end Go.Proofs.Ytlbkcdfllglddaa.fmt
/-! Put of the reference: the interpreter's runs. Conditions: in each statement. -/
namespace Go.Proofs.Ytlbkcdfllglddaa.fmt
open Go Go.Ab
set_option maxRecDepth 100000
set_option linter.unusedSimpArgs false
set_option linter.unusedVariables false
attribute [local simp] ox ou ko ky kn kd oy_seq oy_ret oy_exit oy_skip oy_cond oy_block oy_region oy_draw dr_eq dre_some stl_some st_nil st_op ot ov os_same sy_nil sy_op nxt_normal nxt_ret nxt_exit blk_exit blk_normal blk_ret reg_some cnd_true cnd_false opr_some grd_true grd_false fin_ret fin_normal finv_some Region.wanted opA callV aop evalL evalO putE binA bi_add bi_sub bi_mul bi_eql bi_neq bi_lss bi_leq bi_gtr bi_geq unA ofVal ofLeaf resultsA tupA AV.rfL AV.rf yielded_yv yv_bool yv_undef yv_none og_n List.replicate Option.bind heapFree onlyReads
def Pu2 (w : Nat) (H : Heap) (e : Option (Ex × St)) : Prop := ∃ (y0 y2 y3 y4 y5 y6 y7 y10 y11 y12 y13 y14 y15 y16 y17 y18 y19 y20 y21 y22 y23 y24 y25 y26 y27 y28 y29 y30 y31 y32 y33 y34 y35 y36 y37 y38 y39 y40 y41 y42 y43 y44 y45 y46 y47 y48 y49 y50 y51 y52 y53 y54 y55 y56 y57 y58 y59 y60 y61 y62 y63 y64 y65 y66 y67 y68 : AV), e = some (.exit 0, ⟨[y0, .int .u64 (w : Int), y2, y3, y4, y5, y6, y7, .int .u64 0, .int .i64 0, y10, y11, y12, y13, y14, y15, y16, y17, y18, y19, y20, y21, y22, y23, y24, y25, y26, y27, y28, y29, y30, y31, y32, y33, y34, y35, y36, y37, y38, y39, y40, y41, y42, y43, y44, y45, y46, y47, y48, y49, y50, y51, y52, y53, y54, y55, y56, y57, y58, y59, y60, y61, y62, y63, y64, y65, y66, y67, y68], [], H⟩)
set_option maxHeartbeats 8000000 in
theorem pu2_loop (cx : Ctx) (lo : Nat) (H : Heap) (w f : Nat) (hw : w < 2 ^ 64) (hf : f < 2 ^ 64) (ps : List Nat) (hlt : ∀ p ∈ ps, p < 64) (u : AV) (hu : Ints H u ps) (hlen : ps.length ≤ 64) :
    ∀ (m i : Nat) {x0 x2 x4 x5 x6 x7 x10 x13 x14 x15 x16 x17 x18 x19 x20 x21 x22 x23 x24 x25 x26 x27 x28 x29 x30 x31 x32 x33 x34 x35 x36 x37 x38 x39 x40 x41 x42 x43 x44 x45 x46 x47 x48 x49 x50 x51 x52 x53 x54 x55 x56 x57 x58 x59 x60 x61 x62 x63 x64 x65 x66 x67 x68 : AV}, i + m = ps.length →
    Pu2 (putF ps w f) H (om Try.prog cx lo (loopAt Try.f23 0) ⟨[x0, .int .u64 (putF (ps.take i) w f : Nat), x2, .int .u64 f, x4, x5, x6, x7, .int .u64 0, .int .i64 0, x10, u, .int .i64 i, x13, x14, x15, x16, x17, x18, x19, x20, x21, x22, x23, x24, x25, x26, x27, x28, x29, x30, x31, x32, x33, x34, x35, x36, x37, x38, x39, x40, x41, x42, x43, x44, x45, x46, x47, x48, x49, x50, x51, x52, x53, x54, x55, x56, x57, x58, x59, x60, x61, x62, x63, x64, x65, x66, x67, x68], [], H⟩) := by
  simp -implicitDefEqProofs +decide only [loopAt, loopIn, firstC, Try.f23, Option.getD, if_true, if_false]
  have hln := hu.len
  intro m
  induction m with
  | zero =>
    intro i x0 x2 x4 x5 x6 x7 x10 x13 x14 x15 x16 x17 x18 x19 x20 x21 x22 x23 x24 x25 x26 x27 x28 x29 x30 x31 x32 x33 x34 x35 x36 x37 x38 x39 x40 x41 x42 x43 x44 x45 x46 x47 x48 x49 x50 x51 x52 x53 x54 x55 x56 x57 x58 x59 x60 x61 x62 x63 x64 x65 x66 x67 x68 hi
    obtain rfl : i = ps.length := by omega
    rw [oy_loop, List.take_length]
    simp -implicitDefEqProofs only [ox, ou, ko, ky, kn, kd, oy_seq, oy_ret, oy_exit, oy_skip, oy_cond, oy_block, oy_region, oy_draw, dr_eq, dre_some, stl_some, st_nil, st_op, ot, ov, os_same, sy_nil, sy_op, nxt_normal, nxt_ret, nxt_exit, blk_exit, blk_normal, blk_ret, reg_some, cnd_true, cnd_false, opr_some, grd_true, grd_false, fin_ret, fin_normal, finv_some, Region.wanted, opA, callV, aop, evalL, evalO, putE, binA, bi_add, bi_sub, bi_mul, bi_eql, bi_neq, bi_lss, bi_leq, bi_gtr, bi_geq, unA, ofVal, ofLeaf, resultsA, tupA, AV.rfL, AV.rf, yielded_yv, yv_bool, yv_undef, yv_none, og_n, List.replicate, Option.bind, heapFree, onlyReads, List.set, List.getD, List.getElem?_cons_succ, List.getElem?_cons_zero, Option.getD, Option.map, decide_true, decide_false, if_true, if_false, Bool.false_eq_true, Bool.not_true, Bool.not_false, beq_self_eq_true, Bool.true_and, Bool.and_true, Bool.and_self, Bool.false_and, Bool.and_false, Bool.true_or, Bool.or_true, Bool.false_or, Bool.or_false, Bool.or_self, List.length_cons, List.length_nil, List.cons_append, List.nil_append, ite_self, List.getElem?_toArray, Option.bind_some, Option.bind_none, og_tt, og_ff, og_tf, og_ft, Int.reduceBNe, Int.reduceBEq, Int.reduceLT, Int.reduceLE, hln, Int.lt_irrefl, Option.map]
    exact ⟨_, _, _, _, _, _, _, _, _, _, _, _, _, _, _, _, _, _, _, _, _, _, _, _, _, _, _, _, _, _, _, _, _, _, _, _, _, _, _, _, _, _, _, _, _, _, _, _, _, _, _, _, _, _, _, _, _, _, _, _, _, _, _, _, _, _, rfl⟩
  | succ m ih =>
    intro i x0 x2 x4 x5 x6 x7 x10 x13 x14 x15 x16 x17 x18 x19 x20 x21 x22 x23 x24 x25 x26 x27 x28 x29 x30 x31 x32 x33 x34 x35 x36 x37 x38 x39 x40 x41 x42 x43 x44 x45 x46 x47 x48 x49 x50 x51 x52 x53 x54 x55 x56 x57 x58 x59 x60 x61 x62 x63 x64 x65 x66 x67 x68 hi
    have e1 : (i : Int) < (ps.length : Int) := by omega
    obtain ⟨p, hp⟩ : ∃ p, ps[i]? = some p := ⟨ps[i]'(by omega), List.getElem?_eq_getElem (by omega)⟩
    obtain ⟨q, i1, i2⟩ := hu.at hp
    have hp64 := hlt p (List.mem_of_getElem? hp)
    have w3 : IntKind.i64.wrap ((i : Int) + 1) = ((i + 1 : Nat) : Int) := by rw [wi64 (by omega) (by omega)]; push_cast; rfl
    have hs := putF_snoc (ps.take i) p w f
    rw [← take_snoc' hp, List.length_take, Nat.min_eq_left (by omega)] at hs
    have hc : putF (ps.take i) w f < 2 ^ 64 := putF_lt _ _ _ _ hw fun q hq => hlt q (List.mem_of_mem_take hq)
    have hb : putF (ps.take (i + 1)) w f < 2 ^ 64 := putF_lt _ _ _ _ hw fun q hq => hlt q (List.mem_of_mem_take hq)
    generalize hcur : putF (ps.take i) w f = c at hs hc
    have L := @ih (i + 1)
    rw [hs] at L hb
    have hb1 := bit_run c p hc (by omega)
    have hb2 := bit_run f i hf (by omega)
    have hv := value_run p (by omega)
    -- with the bit taken away
    obtain ⟨d, hd, hd2⟩ : ∃ d : Nat, d = (c - if c.testBit p then 2 ^ p else 0) ∧ d ≤ c := ⟨_, rfl, Nat.sub_le _ _⟩
    have hset : setB c p (f.testBit i) = d + if f.testBit i then 2 ^ p else 0 := by rw [hd]; rfl
    rw [hset] at L hb
    have t1 : c.testBit p = true → IntKind.u64.wrap ((c : Int) - ((2 ^ p : Nat) : Int)) = (d : Int) := by
      intro h
      rw [h, if_pos rfl] at hd
      have := (sub_two_pow h).1
      rw [show (c : Int) - ((2 ^ p : Nat) : Int) = ((c - 2 ^ p : Nat) : Int) by omega, hd]
      exact wrap_u64_lt (by omega)
    have t2 : f.testBit i = true → IntKind.u64.wrap ((d : Int) + ((2 ^ p : Nat) : Int)) = ((d + 2 ^ p : Nat) : Int) := by
      intro h
      rw [h, if_pos rfl] at hb
      rw [← Int.natCast_add]; exact wrap_u64_lt hb
    rw [oy_loop]
    cases c1 : c.testBit p <;> cases c2 : f.testBit i
    · rw [c1] at hd
      simp only [Bool.false_eq_true, if_false, Nat.sub_zero] at hd
      rw [c2] at L
      simp only [Bool.false_eq_true, if_false, Nat.add_zero, hd] at L
      simp -implicitDefEqProofs only [ox, ou, ko, ky, kn, kd, oy_seq, oy_ret, oy_exit, oy_skip, oy_cond, oy_block, oy_region, oy_draw, dr_eq, dre_some, stl_some, st_nil, st_op, ot, ov, os_same, sy_nil, sy_op, nxt_normal, nxt_ret, nxt_exit, blk_exit, blk_normal, blk_ret, reg_some, cnd_true, cnd_false, opr_some, grd_true, grd_false, fin_ret, fin_normal, finv_some, Region.wanted, opA, callV, aop, evalL, evalO, putE, binA, bi_add, bi_sub, bi_mul, bi_eql, bi_neq, bi_lss, bi_leq, bi_gtr, bi_geq, unA, ofVal, ofLeaf, resultsA, tupA, AV.rfL, AV.rf, yielded_yv, yv_bool, yv_undef, yv_none, og_n, List.replicate, Option.bind, heapFree, onlyReads, List.set, List.getD, List.getElem?_cons_succ, List.getElem?_cons_zero, Option.getD, Option.map, decide_true, decide_false, if_true, if_false, Bool.false_eq_true, Bool.not_true, Bool.not_false, beq_self_eq_true, Bool.true_and, Bool.and_true, Bool.and_self, Bool.false_and, Bool.and_false, Bool.true_or, Bool.or_true, Bool.false_or, Bool.or_false, Bool.or_self, List.length_cons, List.length_nil, List.cons_append, List.nil_append, ite_self, List.getElem?_toArray, Option.bind_some, Option.bind_none, og_tt, og_ff, og_tf, og_ft, Int.reduceBNe, Int.reduceBEq, Int.reduceLT, Int.reduceLE, hln, e1, i1, i2, hb1, hb2, bit_eq, c1, c2, w3, Option.map]
      exact L (by omega)
    · rw [c1] at hd
      simp only [Bool.false_eq_true, if_false, Nat.sub_zero] at hd
      rw [c2] at L
      simp only [if_true] at L
      have t2' := t2 c2
      subst hd
      simp -implicitDefEqProofs only [ox, ou, ko, ky, kn, kd, oy_seq, oy_ret, oy_exit, oy_skip, oy_cond, oy_block, oy_region, oy_draw, dr_eq, dre_some, stl_some, st_nil, st_op, ot, ov, os_same, sy_nil, sy_op, nxt_normal, nxt_ret, nxt_exit, blk_exit, blk_normal, blk_ret, reg_some, cnd_true, cnd_false, opr_some, grd_true, grd_false, fin_ret, fin_normal, finv_some, Region.wanted, opA, callV, aop, evalL, evalO, putE, binA, bi_add, bi_sub, bi_mul, bi_eql, bi_neq, bi_lss, bi_leq, bi_gtr, bi_geq, unA, ofVal, ofLeaf, resultsA, tupA, AV.rfL, AV.rf, yielded_yv, yv_bool, yv_undef, yv_none, og_n, List.replicate, Option.bind, heapFree, onlyReads, List.set, List.getD, List.getElem?_cons_succ, List.getElem?_cons_zero, Option.getD, Option.map, decide_true, decide_false, if_true, if_false, Bool.false_eq_true, Bool.not_true, Bool.not_false, beq_self_eq_true, Bool.true_and, Bool.and_true, Bool.and_self, Bool.false_and, Bool.and_false, Bool.true_or, Bool.or_true, Bool.false_or, Bool.or_false, Bool.or_self, List.length_cons, List.length_nil, List.cons_append, List.nil_append, ite_self, List.getElem?_toArray, Option.bind_some, Option.bind_none, og_tt, og_ff, og_tf, og_ft, Int.reduceBNe, Int.reduceBEq, Int.reduceLT, Int.reduceLE, hln, e1, i1, i2, hb1, hb2, bit_eq, c1, c2, w3, hv, t2', Option.map]
      exact L (by omega)
    · rw [c2] at L
      simp only [Bool.false_eq_true, if_false, Nat.add_zero] at L
      have t1' := t1 c1
      simp -implicitDefEqProofs only [ox, ou, ko, ky, kn, kd, oy_seq, oy_ret, oy_exit, oy_skip, oy_cond, oy_block, oy_region, oy_draw, dr_eq, dre_some, stl_some, st_nil, st_op, ot, ov, os_same, sy_nil, sy_op, nxt_normal, nxt_ret, nxt_exit, blk_exit, blk_normal, blk_ret, reg_some, cnd_true, cnd_false, opr_some, grd_true, grd_false, fin_ret, fin_normal, finv_some, Region.wanted, opA, callV, aop, evalL, evalO, putE, binA, bi_add, bi_sub, bi_mul, bi_eql, bi_neq, bi_lss, bi_leq, bi_gtr, bi_geq, unA, ofVal, ofLeaf, resultsA, tupA, AV.rfL, AV.rf, yielded_yv, yv_bool, yv_undef, yv_none, og_n, List.replicate, Option.bind, heapFree, onlyReads, List.set, List.getD, List.getElem?_cons_succ, List.getElem?_cons_zero, Option.getD, Option.map, decide_true, decide_false, if_true, if_false, Bool.false_eq_true, Bool.not_true, Bool.not_false, beq_self_eq_true, Bool.true_and, Bool.and_true, Bool.and_self, Bool.false_and, Bool.and_false, Bool.true_or, Bool.or_true, Bool.false_or, Bool.or_false, Bool.or_self, List.length_cons, List.length_nil, List.cons_append, List.nil_append, ite_self, List.getElem?_toArray, Option.bind_some, Option.bind_none, og_tt, og_ff, og_tf, og_ft, Int.reduceBNe, Int.reduceBEq, Int.reduceLT, Int.reduceLE, hln, e1, i1, i2, hb1, hb2, bit_eq, c1, c2, w3, hv, t1', Option.map]
      exact L (by omega)
    · rw [c2] at L
      simp only [if_true] at L
      have t1' := t1 c1
      have t2' := t2 c2
      simp -implicitDefEqProofs only [ox, ou, ko, ky, kn, kd, oy_seq, oy_ret, oy_exit, oy_skip, oy_cond, oy_block, oy_region, oy_draw, dr_eq, dre_some, stl_some, st_nil, st_op, ot, ov, os_same, sy_nil, sy_op, nxt_normal, nxt_ret, nxt_exit, blk_exit, blk_normal, blk_ret, reg_some, cnd_true, cnd_false, opr_some, grd_true, grd_false, fin_ret, fin_normal, finv_some, Region.wanted, opA, callV, aop, evalL, evalO, putE, binA, bi_add, bi_sub, bi_mul, bi_eql, bi_neq, bi_lss, bi_leq, bi_gtr, bi_geq, unA, ofVal, ofLeaf, resultsA, tupA, AV.rfL, AV.rf, yielded_yv, yv_bool, yv_undef, yv_none, og_n, List.replicate, Option.bind, heapFree, onlyReads, List.set, List.getD, List.getElem?_cons_succ, List.getElem?_cons_zero, Option.getD, Option.map, decide_true, decide_false, if_true, if_false, Bool.false_eq_true, Bool.not_true, Bool.not_false, beq_self_eq_true, Bool.true_and, Bool.and_true, Bool.and_self, Bool.false_and, Bool.and_false, Bool.true_or, Bool.or_true, Bool.false_or, Bool.or_false, Bool.or_self, List.length_cons, List.length_nil, List.cons_append, List.nil_append, ite_self, List.getElem?_toArray, Option.bind_some, Option.bind_none, og_tt, og_ff, og_tf, og_ft, Int.reduceBNe, Int.reduceBEq, Int.reduceLT, Int.reduceLE, hln, e1, i1, i2, hb1, hb2, bit_eq, c1, c2, w3, hv, t1', t2', Option.map]
      exact L (by omega)
set_option maxHeartbeats 8000000 in
theorem refPut_run (size : Int) (w : Nat) (hw : w < 2 ^ 64) (l : List Pi) (v : AV) (f : Nat) (hf : f < 2 ^ 64) (lo : Nat) (H : Heap) (hR : Rd H v l) (hlo : lo ≤ H.next) (hl : l.length ≤ 1000) :
    ∃ H', callA Try.prog (om Try.prog) lo 23 [.int .i64 size, .int .u64 w, v, .int .u64 f] H = some (putT size w l f, H') ∧ Ext H H' := by
  rw [call_eq Try.func23 rfl rfl]
  have hlo' := lo_le (own := AV.rfL [.int .i64 size, .int .u64 w, v, .int .u64 f]) hlo
  generalize (if AV.rfL [.int .i64 size, .int .u64 w, v, .int .u64 f] = true then H.next else lo) = lo' at hlo' ⊢
  generalize AV.rfL [.int .i64 size, .int .u64 w, v, .int .u64 f] = own
  have hc := fun lo => refCheck_run size l v lo H hR hl
  unfold putT
  by_cases h0 : chkE size l = 0
  · rw [if_pos h0]
    rw [h0] at hc
    obtain ⟨n, lN, rfl, h1, h2, rfl, hL, h4⟩ := chk_ok h0
    obtain ⟨a1, a2, a3⟩ := hL.at64 h2
    have hbl := fun lo H => refBelow_run w n hw (by omega) lo H
    rw [Int.toNat_natCast, natl_map]
    obtain ⟨u, H1, r1, x1, hu⟩ := places_run lN v lo' H hlo' hR a1 a2 (by omega)
    have hbf := fun lo H => refBelow_run f (places lN).length hf (by unfold width at a2; omega) lo H
    by_cases hwn : w < 2 ^ n
    · simp only [hwn, decide_true] at hbl
      have hln := hu.len
      by_cases hfn : f < 2 ^ (places lN).length
      · rw [if_pos ⟨hwn, hfn⟩]
        simp only [hfn, decide_true] at hbf
        obtain ⟨u2, H2, r2, x2, hu2⟩ := places_run lN v lo' H1 (by have := x1.1; omega) (hR.ext x1) a1 a2 (by omega)
        have L := fun cx lo => @pu2_loop cx lo H2 w f hw hf (places lN) a3 u2 hu2 a2 (places lN).length 0
        simp -implicitDefEqProofs +decide only [loopAt, loopIn, firstC, Try.f23, Option.getD, if_true, if_false] at L
        simp -implicitDefEqProofs only [Try.f23]
        simp -implicitDefEqProofs only [ox, ou, ko, ky, kn, kd, oy_seq, oy_ret, oy_exit, oy_skip, oy_cond, oy_block, oy_region, oy_draw, dr_eq, dre_some, stl_some, st_nil, st_op, ot, ov, os_same, sy_nil, sy_op, nxt_normal, nxt_ret, nxt_exit, blk_exit, blk_normal, blk_ret, reg_some, cnd_true, cnd_false, opr_some, grd_true, grd_false, fin_ret, fin_normal, finv_some, Region.wanted, opA, callV, aop, evalL, evalO, putE, binA, bi_add, bi_sub, bi_mul, bi_eql, bi_neq, bi_lss, bi_leq, bi_gtr, bi_geq, unA, ofVal, ofLeaf, resultsA, tupA, AV.rfL, AV.rf, yielded_yv, yv_bool, yv_undef, yv_none, og_n, List.replicate, Option.bind, heapFree, onlyReads, List.set, List.getD, List.getElem?_cons_succ, List.getElem?_cons_zero, Option.getD, Option.map, decide_true, decide_false, if_true, if_false, Bool.false_eq_true, Bool.not_true, Bool.not_false, beq_self_eq_true, Bool.true_and, Bool.and_true, Bool.and_self, Bool.false_and, Bool.and_false, Bool.true_or, Bool.or_true, Bool.false_or, Bool.or_false, Bool.or_self, List.length_cons, List.length_nil, List.cons_append, List.nil_append, ite_self, List.getElem?_toArray, Option.bind_some, Option.bind_none, og_tt, og_ff, og_tf, og_ft, Int.reduceBNe, Int.reduceBEq, Int.reduceLT, Int.reduceLE, hc, hbl, r1, hln, hbf, r2, Option.map]
        generalize hr : om Try.prog _ _ (Code.loop _) _ = r
        have P : Pu2 (putF (places lN) w f) H2 r := by rw [← hr]; exact L _ _ (by simp)
        obtain ⟨y0, y2, y3, y4, y5, y6, y7, y10, y11, y12, y13, y14, y15, y16, y17, y18, y19, y20, y21, y22, y23, y24, y25, y26, y27, y28, y29, y30, y31, y32, y33, y34, y35, y36, y37, y38, y39, y40, y41, y42, y43, y44, y45, y46, y47, y48, y49, y50, y51, y52, y53, y54, y55, y56, y57, y58, y59, y60, y61, y62, y63, y64, y65, y66, y67, y68, rfl⟩ := P
        clear hr L
        simp -implicitDefEqProofs only [ox, ou, ko, ky, kn, kd, oy_seq, oy_ret, oy_exit, oy_skip, oy_cond, oy_block, oy_region, oy_draw, dr_eq, dre_some, stl_some, st_nil, st_op, ot, ov, os_same, sy_nil, sy_op, nxt_normal, nxt_ret, nxt_exit, blk_exit, blk_normal, blk_ret, reg_some, cnd_true, cnd_false, opr_some, grd_true, grd_false, fin_ret, fin_normal, finv_some, Region.wanted, opA, callV, aop, evalL, evalO, putE, binA, bi_add, bi_sub, bi_mul, bi_eql, bi_neq, bi_lss, bi_leq, bi_gtr, bi_geq, unA, ofVal, ofLeaf, resultsA, tupA, AV.rfL, AV.rf, yielded_yv, yv_bool, yv_undef, yv_none, og_n, List.replicate, Option.bind, heapFree, onlyReads, List.set, List.getD, List.getElem?_cons_succ, List.getElem?_cons_zero, Option.getD, Option.map, decide_true, decide_false, if_true, if_false, Bool.false_eq_true, Bool.not_true, Bool.not_false, beq_self_eq_true, Bool.true_and, Bool.and_true, Bool.and_self, Bool.false_and, Bool.and_false, Bool.true_or, Bool.or_true, Bool.false_or, Bool.or_false, Bool.or_self, List.length_cons, List.length_nil, List.cons_append, List.nil_append, ite_self, List.getElem?_toArray, Option.bind_some, Option.bind_none, og_tt, og_ff, og_tf, og_ft, Int.reduceBNe, Int.reduceBEq, Int.reduceLT, Int.reduceLE]
        exact if_out (x1.trans x2)
      · rw [if_neg (fun h => hfn h.2)]
        simp only [hfn, decide_false] at hbf
        simp -implicitDefEqProofs only [Try.f23]
        simp -implicitDefEqProofs only [ox, ou, ko, ky, kn, kd, oy_seq, oy_ret, oy_exit, oy_skip, oy_cond, oy_block, oy_region, oy_draw, dr_eq, dre_some, stl_some, st_nil, st_op, ot, ov, os_same, sy_nil, sy_op, nxt_normal, nxt_ret, nxt_exit, blk_exit, blk_normal, blk_ret, reg_some, cnd_true, cnd_false, opr_some, grd_true, grd_false, fin_ret, fin_normal, finv_some, Region.wanted, opA, callV, aop, evalL, evalO, putE, binA, bi_add, bi_sub, bi_mul, bi_eql, bi_neq, bi_lss, bi_leq, bi_gtr, bi_geq, unA, ofVal, ofLeaf, resultsA, tupA, AV.rfL, AV.rf, yielded_yv, yv_bool, yv_undef, yv_none, og_n, List.replicate, Option.bind, heapFree, onlyReads, List.set, List.getD, List.getElem?_cons_succ, List.getElem?_cons_zero, Option.getD, Option.map, decide_true, decide_false, if_true, if_false, Bool.false_eq_true, Bool.not_true, Bool.not_false, beq_self_eq_true, Bool.true_and, Bool.and_true, Bool.and_self, Bool.false_and, Bool.and_false, Bool.true_or, Bool.or_true, Bool.false_or, Bool.or_false, Bool.or_self, List.length_cons, List.length_nil, List.cons_append, List.nil_append, ite_self, List.getElem?_toArray, Option.bind_some, Option.bind_none, og_tt, og_ff, og_tf, og_ft, Int.reduceBNe, Int.reduceBEq, Int.reduceLT, Int.reduceLE, hc, hbl, r1, hln, hbf, Option.map]
        exact if_out x1
    · rw [if_neg (fun h => hwn h.1)]
      simp only [hwn, decide_false] at hbl
      simp -implicitDefEqProofs only [Try.f23]
      simp -implicitDefEqProofs only [ox, ou, ko, ky, kn, kd, oy_seq, oy_ret, oy_exit, oy_skip, oy_cond, oy_block, oy_region, oy_draw, dr_eq, dre_some, stl_some, st_nil, st_op, ot, ov, os_same, sy_nil, sy_op, nxt_normal, nxt_ret, nxt_exit, blk_exit, blk_normal, blk_ret, reg_some, cnd_true, cnd_false, opr_some, grd_true, grd_false, fin_ret, fin_normal, finv_some, Region.wanted, opA, callV, aop, evalL, evalO, putE, binA, bi_add, bi_sub, bi_mul, bi_eql, bi_neq, bi_lss, bi_leq, bi_gtr, bi_geq, unA, ofVal, ofLeaf, resultsA, tupA, AV.rfL, AV.rf, yielded_yv, yv_bool, yv_undef, yv_none, og_n, List.replicate, Option.bind, heapFree, onlyReads, List.set, List.getD, List.getElem?_cons_succ, List.getElem?_cons_zero, Option.getD, Option.map, decide_true, decide_false, if_true, if_false, Bool.false_eq_true, Bool.not_true, Bool.not_false, beq_self_eq_true, Bool.true_and, Bool.and_true, Bool.and_self, Bool.false_and, Bool.and_false, Bool.true_or, Bool.or_true, Bool.false_or, Bool.or_false, Bool.or_self, List.length_cons, List.length_nil, List.cons_append, List.nil_append, ite_self, List.getElem?_toArray, Option.bind_some, Option.bind_none, og_tt, og_ff, og_tf, og_ft, Int.reduceBNe, Int.reduceBEq, Int.reduceLT, Int.reduceLE, hc, hbl]
      exact ⟨H, by first | rfl | exact ite_self _, Ext.refl H⟩
  · rw [if_neg h0]
    have hne : (chkE size l != 0) = true := by simp [h0]
    have heq : (chkE size l == 0) = false := by simp [h0]
    simp -implicitDefEqProofs only [Try.f23]
    simp -implicitDefEqProofs only [ox, ou, ko, ky, kn, kd, oy_seq, oy_ret, oy_exit, oy_skip, oy_cond, oy_block, oy_region, oy_draw, dr_eq, dre_some, stl_some, st_nil, st_op, ot, ov, os_same, sy_nil, sy_op, nxt_normal, nxt_ret, nxt_exit, blk_exit, blk_normal, blk_ret, reg_some, cnd_true, cnd_false, opr_some, grd_true, grd_false, fin_ret, fin_normal, finv_some, Region.wanted, opA, callV, aop, evalL, evalO, putE, binA, bi_add, bi_sub, bi_mul, bi_eql, bi_neq, bi_lss, bi_leq, bi_gtr, bi_geq, unA, ofVal, ofLeaf, resultsA, tupA, AV.rfL, AV.rf, yielded_yv, yv_bool, yv_undef, yv_none, og_n, List.replicate, Option.bind, heapFree, onlyReads, List.set, List.getD, List.getElem?_cons_succ, List.getElem?_cons_zero, Option.getD, Option.map, decide_true, decide_false, if_true, if_false, Bool.false_eq_true, Bool.not_true, Bool.not_false, beq_self_eq_true, Bool.true_and, Bool.and_true, Bool.and_self, Bool.false_and, Bool.and_false, Bool.true_or, Bool.or_true, Bool.false_or, Bool.or_false, Bool.or_self, List.length_cons, List.length_nil, List.cons_append, List.nil_append, ite_self, List.getElem?_toArray, Option.bind_some, Option.bind_none, og_tt, og_ff, og_tf, og_ft, Int.reduceBNe, Int.reduceBEq, Int.reduceLT, Int.reduceLE, hc, hne, heq]
    exact ⟨H, by first | rfl | exact ite_self _, Ext.refl H⟩
end Go.Proofs.Ytlbkcdfllglddaa.fmt
/-! The pieces of a layout, yielded with their places: the interpreter's runs. Conditions: in each statement. -/
namespace Go.Proofs.Ytlbkcdfllglddaa.fmt
open Go Go.Ab
set_option maxRecDepth 100000
set_option linter.unusedSimpArgs false
set_option linter.unusedVariables false
attribute [local simp] ox ou ko ky kn kd oy_seq oy_ret oy_exit oy_skip oy_cond oy_block oy_region oy_draw dr_eq dre_some stl_some st_nil st_op ot ov os_same sy_nil sy_op nxt_normal nxt_ret nxt_exit blk_exit blk_normal blk_ret reg_some cnd_true cnd_false opr_some grd_true grd_false fin_ret fin_normal finv_some Region.wanted opA callV aop evalL evalO putE binA bi_add bi_sub bi_mul bi_eql bi_neq bi_lss bi_leq bi_gtr bi_geq unA ofVal ofLeaf resultsA tupA AV.rfL AV.rf yielded_yv yv_bool yv_undef yv_none og_n List.replicate Option.bind heapFree onlyReads
theorem Rd.leaf {H : Heap} {v : AV} {l : List Pi} (h : Rd H v l) : v.cells = [v] ∧ leafA v = true := by
  rcases h with ⟨a, cap, rfl, _⟩ | ⟨b, rfl, _, _⟩ <;> exact ⟨rfl, rfl⟩
theorem shifted_run (l : List Pi) (v : AV) (lo : Nat) (H : Heap) (hR : Rd H v l) :
    callA Try.prog (om Try.prog) lo 38 [v] H = some (.func 47 [] [.ptr H.next 0], H.push (.cells 39 [v])) := by
  rw [call_eq Try.func38 rfl rfl]
  generalize (if AV.rfL [v] = true then H.next else lo) = lo'
  generalize AV.rfL [v] = own
  simp -implicitDefEqProofs only [Try.f38]
  obtain ⟨h1, h2⟩ := hR.leaf
  simp -implicitDefEqProofs only [ox, ou, ko, ky, kn, kd, oy_seq, oy_ret, oy_exit, oy_skip, oy_cond, oy_block, oy_region, oy_draw, dr_eq, dre_some, stl_some, st_nil, st_op, ot, ov, os_same, sy_nil, sy_op, nxt_normal, nxt_ret, nxt_exit, blk_exit, blk_normal, blk_ret, reg_some, cnd_true, cnd_false, opr_some, grd_true, grd_false, fin_ret, fin_normal, finv_some, Region.wanted, opA, callV, aop, evalL, evalO, putE, binA, bi_add, bi_sub, bi_mul, bi_eql, bi_neq, bi_lss, bi_leq, bi_gtr, bi_geq, unA, ofVal, ofLeaf, resultsA, tupA, AV.rfL, AV.rf, yielded_yv, yv_bool, yv_undef, yv_none, og_n, List.replicate, Option.bind, heapFree, onlyReads, List.set, List.getD, List.getElem?_cons_succ, List.getElem?_cons_zero, Option.getD, Option.map, decide_true, decide_false, if_true, if_false, Bool.false_eq_true, Bool.not_true, Bool.not_false, beq_self_eq_true, Bool.true_and, Bool.and_true, Bool.and_self, Bool.false_and, Bool.and_false, Bool.true_or, Bool.or_true, Bool.false_or, Bool.or_false, Bool.or_self, List.length_cons, List.length_nil, List.cons_append, List.nil_append, ite_self, List.getElem?_toArray, Option.bind_some, Option.bind_none, og_tt, og_ff, og_tf, og_ft, Int.reduceBNe, Int.reduceBEq, Int.reduceLT, Int.reduceLE, sz39, h1, h2, leafs, List.all_cons, List.all_nil]
def Yl (Inv : List Pc → Heap → Prop) (l : List Pc) (e : Option (Ex × St)) : Prop := ∃ (y0 y1 y2 y3 y4 y5 y6 y7 y8 y9 y10 y11 y12 y13 y14 y15 y16 y17 y18 y19 y20 y21 : AV) (H' : Heap), Inv l H' ∧ e = some (.exit 0, ⟨[y0, y1, y2, y3, y4, y5, y6, y7, y8, y9, y10, y11, y12, y13, y14, y15, y16, y17, y18, y19, y20, y21], [], H'⟩)
set_option maxHeartbeats 4000000 in
theorem yl_loop (cx : Ctx) (lo lb lim : Nat) (hlim : lo ≤ lim) (l : List Pc) (v : AV) (hw : ∀ pre r, pre ++ r = l → width pre ≤ 64) (hl : l.length ≤ 64) (Inv : List Pc → Heap → Prop)
    (hI : ∀ pre H, Inv pre H → Rd H v (l.map toPi) ∧ lim ≤ H.next) (hE : ∀ pre H H', Inv pre H → Ext H H' → Inv pre H')
    (hr : ∀ pre p r H, pre ++ p :: r = l → Inv pre H → ∃ H', roundA (om Try.prog) lo lb [.agg (pcells (toPi p)), .int .i64 (width pre : Nat)] H = some (.bool true, H') ∧ Inv (pre ++ [p]) H' ∧ H.next ≤ H'.next ∧ ∀ b, lim ≤ b → b < H.next → H'.get b = H.get b) :
    ∀ (r pre : List Pc) (k a : Int) (H : Heap) {x1 x2 x4 x5 x9 x10 x11 x12 x13 x14 x15 x16 x17 x18 x19 x20 x21 : AV}, pre ++ r = l → k = pre.length → a = width pre → Inv pre H →
    Yl Inv l (om Try.prog cx lo (loopAt Try.f47 0) ⟨[.yieldf lb, x1, x2, .int .i64 a, x4, x5, v, .int .i64 l.length, .int .i64 k, x9, x10, x11, x12, x13, x14, x15, x16, x17, x18, x19, x20, x21], [], H⟩) := by
  simp -implicitDefEqProofs +decide only [loopAt, loopIn, firstC, Try.f47, Option.getD, if_true, if_false]
  intro r
  induction r with
  | nil =>
    intro pre k a H x1 x2 x4 x5 x9 x10 x11 x12 x13 x14 x15 x16 x17 x18 x19 x20 x21 hpr hk ha hi
    rw [List.append_nil] at hpr
    subst hpr
    have e1 : ¬ (k < (pre.length : Int)) := by omega
    rw [oy_loop]
    simp -implicitDefEqProofs only [ox, ou, ko, ky, kn, kd, oy_seq, oy_ret, oy_exit, oy_skip, oy_cond, oy_block, oy_region, oy_draw, dr_eq, dre_some, stl_some, st_nil, st_op, ot, ov, os_same, sy_nil, sy_op, nxt_normal, nxt_ret, nxt_exit, blk_exit, blk_normal, blk_ret, reg_some, cnd_true, cnd_false, opr_some, grd_true, grd_false, fin_ret, fin_normal, finv_some, Region.wanted, opA, callV, aop, evalL, evalO, putE, binA, bi_add, bi_sub, bi_mul, bi_eql, bi_neq, bi_lss, bi_leq, bi_gtr, bi_geq, unA, ofVal, ofLeaf, resultsA, tupA, AV.rfL, AV.rf, yielded_yv, yv_bool, yv_undef, yv_none, og_n, List.replicate, Option.bind, heapFree, onlyReads, List.set, List.getD, List.getElem?_cons_succ, List.getElem?_cons_zero, Option.getD, Option.map, decide_true, decide_false, if_true, if_false, Bool.false_eq_true, Bool.not_true, Bool.not_false, beq_self_eq_true, Bool.true_and, Bool.and_true, Bool.and_self, Bool.false_and, Bool.and_false, Bool.true_or, Bool.or_true, Bool.false_or, Bool.or_false, Bool.or_self, List.length_cons, List.length_nil, List.cons_append, List.nil_append, ite_self, List.getElem?_toArray, Option.bind_some, Option.bind_none, og_tt, og_ff, og_tf, og_ft, Int.reduceBNe, Int.reduceBEq, Int.reduceLT, Int.reduceLE, e1]
    exact ⟨_, _, _, _, _, _, _, _, _, _, _, _, _, _, _, _, _, _, _, _, _, _, H, hi, rfl⟩
  | cons p r ih =>
    intro pre k a H x1 x2 x4 x5 x9 x10 x11 x12 x13 x14 x15 x16 x17 x18 x19 x20 x21 hpr hk ha hi
    obtain ⟨hR, hlm⟩ := hI pre H hi
    have hgi : (l.map toPi)[pre.length]? = some (toPi p) := by rw [← hpr]; simp
    obtain ⟨q, q0, q1, i1, i2, i3, i4, i5, i6⟩ := hR.at hgi
    rw [← hk] at i1
    have hlen : l.length = pre.length + (r.length + 1) := by rw [← hpr]; simp
    have e1 : k < (l.length : Int) := by omega
    have hwp := hw pre (p :: r) hpr
    have hwp2 := hw (pre ++ [p]) r (by simpa using hpr)
    rw [width_snoc] at hwp2
    have w1 : IntKind.i64.wrap (k + 1) = k + 1 := wi64 (by omega) (by omega)
    have w2 : IntKind.i64.wrap (a + (p.2 : Int)) = a + (p.2 : Int) := wi64 (by omega) (by omega)
    obtain ⟨H1, hH1⟩ : ∃ H1, H1 = (H.push (.cells 49 [.int .i64 0, .int .i64 0])).set H.next (.cells 49 [.int .i64 p.1, .int .i64 p.2]) := ⟨_, rfl⟩
    have x1 : Ext H H1 := by rw [hH1]; exact ((Ext.refl H).push _).set (Nat.le_refl _) _
    obtain ⟨H2, r1, r2, r3, r4⟩ := hr pre p r H1 hpr (hE _ _ _ hi x1)
    rw [← ha] at r1
    have hn1 : H.next < H1.next := by rw [hH1]; simp
    have g1 : H1.get H.next = some (.cells 49 [.int .i64 p.1, .int .i64 p.2]) := by rw [hH1, Heap.get_set, if_pos rfl]
    have g2 : H2.get H.next = some (.cells 49 [.int .i64 p.1, .int .i64 p.2]) := by rw [r4 _ hlm hn1]; exact g1
    have hlo : lo ≤ H.next := by omega
    have st : storeA Try.prog lo (H.push (.cells 49 [.int .i64 0, .int .i64 0])) 49 (.ptr H.next 0) (.agg [.int .i64 p.1, .int .i64 p.2]) = some H1 := by
      rw [hH1]
      simp -implicitDefEqProofs [storeA, sz49, AV.cells, storeCellsA, Heap.get_push, hlo, leafs, leafA, setRange]
    simp only [pcells, toPi] at i2 r1
    rw [oy_loop]
    simp -implicitDefEqProofs only [ox, ou, ko, ky, kn, kd, oy_seq, oy_ret, oy_exit, oy_skip, oy_cond, oy_block, oy_region, oy_draw, dr_eq, dre_some, stl_some, st_nil, st_op, ot, ov, os_same, sy_nil, sy_op, nxt_normal, nxt_ret, nxt_exit, blk_exit, blk_normal, blk_ret, reg_some, cnd_true, cnd_false, opr_some, grd_true, grd_false, fin_ret, fin_normal, finv_some, Region.wanted, opA, callV, aop, evalL, evalO, putE, binA, bi_add, bi_sub, bi_mul, bi_eql, bi_neq, bi_lss, bi_leq, bi_gtr, bi_geq, unA, ofVal, ofLeaf, resultsA, tupA, AV.rfL, AV.rf, yielded_yv, yv_bool, yv_undef, yv_none, og_n, List.replicate, Option.bind, heapFree, onlyReads, List.set, List.getD, List.getElem?_cons_succ, List.getElem?_cons_zero, Option.getD, Option.map, decide_true, decide_false, if_true, if_false, Bool.false_eq_true, Bool.not_true, Bool.not_false, beq_self_eq_true, Bool.true_and, Bool.and_true, Bool.and_self, Bool.false_and, Bool.and_false, Bool.true_or, Bool.or_true, Bool.false_or, Bool.or_false, Bool.or_self, List.length_cons, List.length_nil, List.cons_append, List.nil_append, ite_self, List.getElem?_toArray, Option.bind_some, Option.bind_none, og_tt, og_ff, og_tf, og_ft, Int.reduceBNe, Int.reduceBEq, Int.reduceLT, Int.reduceLE, e1, i1, i2, sz49, ze49, AV.cells, leafs, leafA, List.all_cons, List.all_nil, st, ld49, cellP_some, g1, r1, fa1, ld3, cellO_some, g2, w1, w2, Option.map, Nat.zero_add]
    exact ih (pre ++ [p]) (k + 1) (a + (p.2 : Int)) H2 (by simpa using hpr) (by rw [hk]; simp) (by rw [ha, width_snoc]; push_cast; rfl) r2
set_option maxHeartbeats 4000000 in
theorem yield_run (lo lb lim b2 : Nat) (hlim : lo ≤ lim) (l : List Pc) (v : AV) (hw : ∀ pre r, pre ++ r = l → width pre ≤ 64) (hl : l.length ≤ 64) (Inv : List Pc → Heap → Prop)
    (hI : ∀ pre H, Inv pre H → Rd H v (l.map toPi) ∧ lim ≤ H.next) (hE : ∀ pre H H', Inv pre H → Ext H H' → Inv pre H')
    (hr : ∀ pre p r H, pre ++ p :: r = l → Inv pre H → ∃ H', roundA (om Try.prog) lo lb [.agg (pcells (toPi p)), .int .i64 (width pre : Nat)] H = some (.bool true, H') ∧ Inv (pre ++ [p]) H' ∧ H.next ≤ H'.next ∧ ∀ b, lim ≤ b → b < H.next → H'.get b = H.get b)
    (H : Heap) (h0 : Inv [] H) (hb : H.get b2 = some (.cells 39 [v])) : ∃ H', callA Try.prog (om Try.prog) lo 47 [.yieldf lb, .ptr b2 0] H = some (.tup [], H') ∧ Inv l H' := by
  rw [call_eq Try.func47 rfl rfl]
  obtain ⟨hR, _⟩ := hI [] H h0
  have hln := hR.len
  rw [List.length_map] at hln
  have L := fun cx => @yl_loop cx lo lb lim hlim l v hw hl Inv hI hE hr l [] 0 0 H
  simp -implicitDefEqProofs +decide only [loopAt, loopIn, firstC, Try.f47, Option.getD, if_true, if_false] at L
  simp -implicitDefEqProofs only [Try.f47]
  simp -implicitDefEqProofs only [ox, ou, ko, ky, kn, kd, oy_seq, oy_ret, oy_exit, oy_skip, oy_cond, oy_block, oy_region, oy_draw, dr_eq, dre_some, stl_some, st_nil, st_op, ot, ov, os_same, sy_nil, sy_op, nxt_normal, nxt_ret, nxt_exit, blk_exit, blk_normal, blk_ret, reg_some, cnd_true, cnd_false, opr_some, grd_true, grd_false, fin_ret, fin_normal, finv_some, Region.wanted, opA, callV, aop, evalL, evalO, putE, binA, bi_add, bi_sub, bi_mul, bi_eql, bi_neq, bi_lss, bi_leq, bi_gtr, bi_geq, unA, ofVal, ofLeaf, resultsA, tupA, AV.rfL, AV.rf, yielded_yv, yv_bool, yv_undef, yv_none, og_n, List.replicate, Option.bind, heapFree, onlyReads, List.set, List.getD, List.getElem?_cons_succ, List.getElem?_cons_zero, Option.getD, Option.map, decide_true, decide_false, if_true, if_false, Bool.false_eq_true, Bool.not_true, Bool.not_false, beq_self_eq_true, Bool.true_and, Bool.and_true, Bool.and_self, Bool.false_and, Bool.and_false, Bool.true_or, Bool.or_true, Bool.false_or, Bool.or_false, Bool.or_self, List.length_cons, List.length_nil, List.cons_append, List.nil_append, ite_self, List.getElem?_toArray, Option.bind_some, Option.bind_none, og_tt, og_ff, og_tf, og_ft, Int.reduceBNe, Int.reduceBEq, Int.reduceLT, Int.reduceLE, ld39, cellO_some, hb, hln, Option.map]
  generalize hr' : om Try.prog _ _ (Code.loop _) _ = r
  have P : Yl Inv l r := by rw [← hr']; exact L _ (by simp) (by simp) (by simp [width, places]) h0
  obtain ⟨y0, y1, y2, y3, y4, y5, y6, y7, y8, y9, y10, y11, y12, y13, y14, y15, y16, y17, y18, y19, y20, y21, H', hi, rfl⟩ := P
  clear hr' L
  exact ⟨H', by simp -implicitDefEqProofs only [ox, ou, ko, ky, kn, kd, oy_seq, oy_ret, oy_exit, oy_skip, oy_cond, oy_block, oy_region, oy_draw, dr_eq, dre_some, stl_some, st_nil, st_op, ot, ov, os_same, sy_nil, sy_op, nxt_normal, nxt_ret, nxt_exit, blk_exit, blk_normal, blk_ret, reg_some, cnd_true, cnd_false, opr_some, grd_true, grd_false, fin_ret, fin_normal, finv_some, Region.wanted, opA, callV, aop, evalL, evalO, putE, binA, bi_add, bi_sub, bi_mul, bi_eql, bi_neq, bi_lss, bi_leq, bi_gtr, bi_geq, unA, ofVal, ofLeaf, resultsA, tupA, AV.rfL, AV.rf, yielded_yv, yv_bool, yv_undef, yv_none, og_n, List.replicate, Option.bind, heapFree, onlyReads, List.set, List.getD, List.getElem?_cons_succ, List.getElem?_cons_zero, Option.getD, Option.map, decide_true, decide_false, if_true, if_false, Bool.false_eq_true, Bool.not_true, Bool.not_false, beq_self_eq_true, Bool.true_and, Bool.and_true, Bool.and_self, Bool.false_and, Bool.and_false, Bool.true_or, Bool.or_true, Bool.false_or, Bool.or_false, Bool.or_self, List.length_cons, List.length_nil, List.cons_append, List.nil_append, ite_self, List.getElem?_toArray, Option.bind_some, Option.bind_none, og_tt, og_ff, og_tf, og_ft, Int.reduceBNe, Int.reduceBEq, Int.reduceLT, Int.reduceLE], hi⟩
end Go.Proofs.Ytlbkcdfllglddaa.fmt
/-! Mask of the program: the interpreter's runs. Conditions: in each statement. -/
namespace Go.Proofs.Ytlbkcdfllglddaa.fmt
open Go Go.Ab
set_option maxRecDepth 100000
set_option linter.unusedSimpArgs false
set_option linter.unusedVariables false
attribute [local simp] ox ou ko ky kn kd oy_seq oy_ret oy_exit oy_skip oy_cond oy_block oy_region oy_draw dr_eq dre_some stl_some st_nil st_op ot ov os_same sy_nil sy_op nxt_normal nxt_ret nxt_exit blk_exit blk_normal blk_ret reg_some cnd_true cnd_false opr_some grd_true grd_false fin_ret fin_normal finv_some Region.wanted opA callV aop evalL evalO putE binA bi_add bi_sub bi_mul bi_eql bi_neq bi_lss bi_leq bi_gtr bi_geq unA ofVal ofLeaf resultsA tupA AV.rfL AV.rf yielded_yv yv_bool yv_undef yv_none og_n List.replicate Option.bind heapFree onlyReads
def asgOf : Code → Code | .rangeFunc _ _ a _ => a | _ => .skip
def bodOf : Code → Code | .rangeFunc _ _ _ b => b | _ => .skip
/-- a new variable of a piece -/
theorem new49 (H : Heap) (lo : Nat) (hlo : lo ≤ H.next) (a b : Int) : storeA Try.prog lo (H.push (.cells 49 [.int .i64 0, .int .i64 0])) 49 (.ptr H.next 0) (.agg [.int .i64 a, .int .i64 b]) = some ((H.push (.cells 49 [.int .i64 0, .int .i64 0])).set H.next (.cells 49 [.int .i64 a, .int .i64 b])) := by
  simp -implicitDefEqProofs [storeA, sz49, AV.cells, storeCellsA, Heap.get_push, hlo, leafs, leafA, setRange]
theorem st22 {H : Heap} {lo b : Nat} {x : AV} {n : Int} (h : H.get b = some (.cells 22 [x])) (hlo : lo ≤ b) : storeA Try.prog lo H 22 (.ptr b 0) (.int .u64 n) = some (H.set b (.cells 22 [.int .u64 n])) := by
  simp -implicitDefEqProofs [storeA, sz22, AV.cells, storeCellsA, h, hlo, leafs, leafA, setRange]
theorem pm_shl {p : Pc} (h1 : 1 ≤ p.2) (h2 : p.1 + p.2 ≤ 64) : shiftA .shl .u64 ((2 ^ p.2 - 1 : Nat) : Int) (p.1 : Int) = some (.int .u64 (pm p : Nat)) ∧ pm p < 2 ^ 64 := by
  have hm : (2 ^ p.2 - 1) * 2 ^ p.1 % 2 ^ 64 = pm p := by
    rw [pm]; apply Nat.mod_eq_of_lt
    have h1 : (2 ^ p.2 - 1) * 2 ^ p.1 < 2 ^ p.2 * 2 ^ p.1 := Nat.mul_lt_mul_of_pos_right (by have := Nat.two_pow_pos p.2; omega) (Nat.two_pow_pos _)
    rw [← Nat.pow_add] at h1
    exact Nat.lt_of_lt_of_le h1 (two_pow_le (by omega))
  have := u64_shl (a := 2 ^ p.2 - 1) (y := p.1) (by omega)
  rw [hm] at this
  exact ⟨this, by rw [← hm]; exact Nat.mod_lt _ (Nat.two_pow_pos _)⟩
theorem mask_asg (cx : Ctx) (lo : Nat) (H : Heap) (hlo : lo ≤ H.next) (a b : Int) (x0 x1 x2 x3 x4 x5 x6 x7 x8 x9 x10 x11 x12 x13 x14 x15 x17 x18 x19 x20 x21 x22 x23 x24 x25 x26 : AV) :
    ∃ e7, om Try.prog cx lo (asgOf (loopAt Try.f20 0)) ⟨[x0, x1, x2, x3, x4, x5, x6, x7, x8, x9, x10, x11, x12, x13, x14, x15, .agg [.int .i64 a, .int .i64 b], x17, x18, x19, x20, x21, x22, x23, x24, x25, x26], [], H⟩ = some (.normal, ⟨[x0, x1, x2, x3, x4, x5, x6, .ptr H.next 0, x8, x9, x10, x11, x12, x13, x14, x15, e7, x17, x18, x19, x20, x21, x22, x23, x24, x25, x26], [], (H.push (.cells 49 [.int .i64 0, .int .i64 0])).set H.next (.cells 49 [.int .i64 a, .int .i64 b])⟩) := by
  simp -implicitDefEqProofs +decide only [asgOf, loopAt, loopIn, firstC, Try.f20, Option.getD, if_true, if_false]
  simp -implicitDefEqProofs only [ox, ou, ko, ky, kn, kd, oy_seq, oy_ret, oy_exit, oy_skip, oy_cond, oy_block, oy_region, oy_draw, dr_eq, dre_some, stl_some, st_nil, st_op, ot, ov, os_same, sy_nil, sy_op, nxt_normal, nxt_ret, nxt_exit, blk_exit, blk_normal, blk_ret, reg_some, cnd_true, cnd_false, opr_some, grd_true, grd_false, fin_ret, fin_normal, finv_some, Region.wanted, opA, callV, aop, evalL, evalO, putE, binA, bi_add, bi_sub, bi_mul, bi_eql, bi_neq, bi_lss, bi_leq, bi_gtr, bi_geq, unA, ofVal, ofLeaf, resultsA, tupA, AV.rfL, AV.rf, yielded_yv, yv_bool, yv_undef, yv_none, og_n, List.replicate, Option.bind, heapFree, onlyReads, List.set, List.getD, List.getElem?_cons_succ, List.getElem?_cons_zero, Option.getD, Option.map, decide_true, decide_false, if_true, if_false, Bool.false_eq_true, Bool.not_true, Bool.not_false, beq_self_eq_true, Bool.true_and, Bool.and_true, Bool.and_self, Bool.false_and, Bool.and_false, Bool.true_or, Bool.or_true, Bool.false_or, Bool.or_false, Bool.or_self, List.length_cons, List.length_nil, List.cons_append, List.nil_append, ite_self, List.getElem?_toArray, Option.bind_some, Option.bind_none, og_tt, og_ff, og_tf, og_ft, Int.reduceBNe, Int.reduceBEq, Int.reduceLT, Int.reduceLE, sz49, ze49, AV.cells, leafs, leafA, List.all_cons, List.all_nil, new49 H lo hlo, Option.map]
  exact ⟨_, rfl⟩
set_option maxHeartbeats 1000000 in
theorem mask_bod (cx : Ctx) (lo : Nat) (H : Heap) (b0 b7 m : Nat) (p : Pc) (h1 : 1 ≤ p.2) (h2 : p.1 + p.2 ≤ 64) (hm : m < 2 ^ 64) (g0 : H.get b0 = some (.cells 22 [.int .u64 (m : Int)])) (g7 : H.get b7 = some (.cells 49 [.int .i64 p.1, .int .i64 p.2])) (hlo : lo ≤ b0) (x0 x1 x2 x3 x5 x6 x8 x9 x10 x11 x12 x13 x14 x15 x16 x17 x18 x19 x20 x21 x22 x23 x24 x25 x26 : AV) :
    ∃ env', om Try.prog cx lo (bodOf (loopAt Try.f20 0)) ⟨[x0, x1, x2, x3, .ptr b0 0, x5, x6, .ptr b7 0, x8, x9, x10, x11, x12, x13, x14, x15, x16, x17, x18, x19, x20, x21, x22, x23, x24, x25, x26], [], H⟩ = some (.normal, ⟨env', [], H.set b0 (.cells 22 [.int .u64 (m ||| pm p : Nat)])⟩) := by
  have d6 := dr20_6
  simp -implicitDefEqProofs +decide only [regAt, regIn, Option.getD, Try.f20, if_true, if_false] at d6
  simp -implicitDefEqProofs +decide only [bodOf, loopAt, loopIn, firstC, Try.f20, Option.getD, if_true, if_false]
  obtain ⟨s1, s2⟩ := pm_shl h1 h2
  have hor := Go.Ab.u64_or hm s2
  have hmk := bmask_run p.2 h1 (by omega)
  generalize 2 ^ p.2 - 1 = mk at s1 hmk
  generalize m ||| pm p = r at *
  generalize pm p = q at *
  simp -implicitDefEqProofs only [ox, ou, ko, ky, kn, kd, oy_seq, oy_ret, oy_exit, oy_skip, oy_cond, oy_block, oy_region, oy_draw, dr_eq, dre_some, stl_some, st_nil, st_op, ot, ov, os_same, sy_nil, sy_op, nxt_normal, nxt_ret, nxt_exit, blk_exit, blk_normal, blk_ret, reg_some, cnd_true, cnd_false, opr_some, grd_true, grd_false, fin_ret, fin_normal, finv_some, Region.wanted, opA, callV, aop, evalL, evalO, putE, binA, bi_add, bi_sub, bi_mul, bi_eql, bi_neq, bi_lss, bi_leq, bi_gtr, bi_geq, unA, ofVal, ofLeaf, resultsA, tupA, AV.rfL, AV.rf, yielded_yv, yv_bool, yv_undef, yv_none, og_n, List.replicate, Option.bind, heapFree, onlyReads, List.set, List.getD, List.getElem?_cons_succ, List.getElem?_cons_zero, Option.getD, Option.map, decide_true, decide_false, if_true, if_false, Bool.false_eq_true, Bool.not_true, Bool.not_false, beq_self_eq_true, Bool.true_and, Bool.and_true, Bool.and_self, Bool.false_and, Bool.and_false, Bool.true_or, Bool.or_true, Bool.false_or, Bool.or_false, Bool.or_self, List.length_cons, List.length_nil, List.cons_append, List.nil_append, ite_self, List.getElem?_toArray, Option.bind_some, Option.bind_none, og_tt, og_ff, og_tf, og_ft, Int.reduceBNe, Int.reduceBEq, Int.reduceLT, Int.reduceLE, d6, ld22, ld3, fa0, fa1, g0, g7, cellO_some, hmk, s1, hor, List.take, List.drop, st22 g0 hlo, Nat.zero_add, Option.map]
  exact ⟨_, rfl⟩
end Go.Proofs.Ytlbkcdfllglddaa.fmt
/-! A range over the yielded pieces that gathers a word: the interpreter's run, whatever the round's code. Conditions: in each statement. -/
namespace Go.Proofs.Ytlbkcdfllglddaa.fmt
open Go Go.Ab
set_option maxRecDepth 100000
set_option linter.unusedSimpArgs false
set_option linter.unusedVariables false
/-- what stands while the pieces come: a word that grows, a cell that stays, the loop, where its deferred calls would lie -/
structure YInv (H0 : Heap) (F : List Pc → Nat) (b0 bc : Nat) (X : Blk) (lb d : Nat) (B : Blk) (lim : Nat) (pre : List Pc) (H : Heap) : Prop where
  ext : Ext H0 H
  word : H.get b0 = some (.cells 22 [.int .u64 (F pre : Nat)])
  stay : H.get bc = some X
  loop : H.get lb = some B
  dfr : H.get d = some .dfr
  next : lim ≤ H.next
structure YBl (H0 : Heap) (lo b0 bc lb d lim : Nat) : Prop where
  lo : lo ≤ H0.next
  n0 : H0.next ≤ b0
  nl : H0.next ≤ lb
  m0 : b0 < lim
  mc : bc < lim
  ml : lb < lim
  md : d < lim
  e1 : b0 ≠ bc
  e2 : b0 ≠ lb
  e3 : b0 ≠ d
  e4 : lb ≠ bc
  e5 : lb ≠ d
theorem YInv.grow {H0 : Heap} {F : List Pc → Nat} {lo b0 bc lb d lim : Nat} {X B : Blk} {pre : List Pc} {H H' : Heap} (q : YBl H0 lo b0 bc lb d lim) (h : YInv H0 F b0 bc X lb d B lim pre H) (x : Ext H H') : YInv H0 F b0 bc X lb d B lim pre H' :=
  have n := h.next
  { ext := h.ext.trans x, word := by rw [x.2 _ (by have := q.m0; omega)]; exact h.word, stay := by rw [x.2 _ (by have := q.mc; omega)]; exact h.stay,
    loop := by rw [x.2 _ (by have := q.ml; omega)]; exact h.loop, dfr := by rw [x.2 _ (by have := q.md; omega)]; exact h.dfr, next := Nat.le_trans n x.1 }
theorem yround {H0 : Heap} {F : List Pc → Nat} {lo b0 bc lb d lim : Nat} {X : Blk} {pre : List Pc} {p : Pc} {H : Heap} {fn : FuncId} {tmps : List AV} {params : List Tmp} {A Bd : Code} {args env1 env2 : List AV} {d0 : Nat} {z c : Blk}
    (q : YBl H0 lo b0 bc lb d lim) (h : YInv H0 F b0 bc X lb d (.loop .ready none fn tmps params A Bd d0) lim pre H) (hset : setParams tmps params args = some env1)
    (hasg : om Try.prog ⟨fn, some lb⟩ lo A ⟨env1, [], H⟩ = some (.normal, ⟨env2, [], (H.push z).set H.next c⟩))
    (hbod : ∀ Y : Heap, Y.get b0 = some (.cells 22 [.int .u64 (F pre : Nat)]) → Y.get bc = some X → Y.get H.next = some c → ∃ env3, om Try.prog ⟨fn, some lb⟩ lo Bd ⟨env2, [], Y⟩ = some (.normal, ⟨env3, [], Y.set b0 (.cells 22 [.int .u64 (F (pre ++ [p]) : Nat)])⟩)) :
    ∃ H', roundA (om Try.prog) lo lb args H = some (.bool true, H') ∧ YInv H0 F b0 bc X lb d (.loop .ready none fn tmps params A Bd d0) lim (pre ++ [p]) H' ∧ H.next ≤ H'.next ∧ ∀ b, lim ≤ b → b < H.next → H'.get b = H.get b := by
  have n := h.next
  have q0 := q.m0; have qc := q.mc; have ql := q.ml; have qd := q.md; have e1 := q.e1; have e2 := q.e2; have e3 := q.e3; have e4 := q.e4; have e5 := q.e5; have n0 := q.n0; have nl := q.nl; have qlo := q.lo; have xh := h.ext.1
  obtain ⟨H2, hH2⟩ : ∃ H2, H2 = (H.push z).set H.next c := ⟨_, rfl⟩
  rw [← hH2] at hasg
  have x2 : Ext H H2 := by rw [hH2]; exact ((Ext.refl H).push _).set (Nat.le_refl _) _
  have gl2 : H2.get lb = some (.loop .ready none fn tmps params A Bd d0) := by rw [x2.2 _ (by omega)]; exact h.loop
  have gn : H2.get H.next = some c := by rw [hH2, Heap.get_set, if_pos rfl]
  obtain ⟨Y, hY⟩ : ∃ Y, Y = H2.set lb (.loop .busy none fn tmps params A Bd d0) := ⟨_, rfl⟩
  obtain ⟨env3, hb⟩ := hbod Y (by rw [hY, Heap.get_set, if_neg e2, x2.2 _ (by omega)]; exact h.word) (by rw [hY, Heap.get_set, if_neg (fun e => e4 e.symm), x2.2 _ (by omega)]; exact h.stay) (by rw [hY, Heap.get_set, if_neg (by omega)]; exact gn)
  have gy : (Y.set b0 (.cells 22 [.int .u64 (F (pre ++ [p]) : Nat)])).get lb = some (.loop .busy none fn tmps params A Bd d0) := by
    rw [Heap.get_set, if_neg (fun e => e2 e.symm), hY, Heap.get_set, if_pos rfl]
  rw [hY] at hb gy
  refine ⟨_, roundA_ok h.loop (by omega) hset hasg gl2 hb gy, ?_, ?_, ?_⟩
  · have hn2 : H2.next = H.next + 1 := by rw [hH2]; simp
    constructor
    · exact (((h.ext.trans x2).set nl _).set n0 _).set nl _
    · rw [Heap.get_set, if_neg e2, Heap.get_set, if_pos rfl]
    · rw [Heap.get_set, if_neg (fun e => e4 e.symm), Heap.get_set, if_neg (fun e => e1 e.symm), Heap.get_set, if_neg (fun e => e4 e.symm), x2.2 _ (by omega)]; exact h.stay
    · rw [Heap.get_set, if_pos rfl]
    · rw [Heap.get_set, if_neg (fun e => e5 e.symm), Heap.get_set, if_neg (fun e => e3 e.symm), Heap.get_set, if_neg (fun e => e5 e.symm), x2.2 _ (by omega)]; exact h.dfr
    · simp only [Heap.next_set]; omega
  · simp only [Heap.next_set]; exact x2.1
  · intro b h1 h2
    rw [Heap.get_set, if_neg (by omega), Heap.get_set, if_neg (by omega), Heap.get_set, if_neg (by omega), x2.2 _ h2]
theorem lay_width {n : Nat} {l : List Pc} (hL : Lay n l) (hn : n ≤ 64) : ∀ pre r, pre ++ r = l → width pre ≤ 64 := by
  intro pre r h
  subst h
  have := hL.pre.width_le
  omega
/-- how a range ends -/
def YPost (H0 : Heap) (d b0 w : Nat) (env : List AV) (e : Option (Ex × St)) : Prop := ∃ H5, e = some (.normal, ⟨env, [d], H5⟩) ∧ Ext H0 H5 ∧ H5.get b0 = some (.cells 22 [.int .u64 (w : Int)]) ∧ H5.get d = some .dfr
/-- the whole range -/
theorem yrange {H0 H3 : Heap} {F : List Pc → Nat} {lo b0 bc b2 n : Nat} {X : Blk} {fn : FuncId} {env : List AV} {f : Operand} {params : Array Tmp} {A Bd : Code} {l : List Pc} {v : AV}
    (hL : Lay n l) (hn : n ≤ 64) (h4 : l.length ≤ 4) (hR : Rd H0 v (l.map toPi)) (hf : evalO env f = some (.func 47 [] [.ptr b2 0])) (hlo : lo ≤ H0.next) (x : Ext H0 H3) (h0 : H0.next ≤ b0) (m0 : b0 < H3.next) (mc : bc < H3.next) (m2 : b2 < H3.next) (hne : b0 ≠ bc)
    (hb2 : H3.get b2 = some (.cells 39 [v])) (g0 : H3.get b0 = some (.cells 22 [.int .u64 (F [] : Nat)])) (gc : H3.get bc = some X)
    (hset : ∀ a b : AV, ∃ env1, setParams env params.toList [a, b] = some env1 ∧ ∀ (pre : List Pc) (p : Pc) (r : List Pc) (H : Heap), pre ++ p :: r = l → lo ≤ H.next → a = .agg [.int .i64 p.1, .int .i64 p.2] → b = .int .i64 (width pre : Nat) →
      ∃ env2, om Try.prog ⟨fn, some (H3.next + 1)⟩ lo A ⟨env1, [], H⟩ = some (.normal, ⟨env2, [], (H.push (.cells 49 [.int .i64 0, .int .i64 0])).set H.next (.cells 49 [.int .i64 p.1, .int .i64 p.2])⟩) ∧
      ∀ Y : Heap, Y.get b0 = some (.cells 22 [.int .u64 (F pre : Nat)]) → Y.get bc = some X → Y.get H.next = some (.cells 49 [.int .i64 p.1, .int .i64 p.2]) → ∃ env3, om Try.prog ⟨fn, some (H3.next + 1)⟩ lo Bd ⟨env2, [], Y⟩ = some (.normal, ⟨env3, [], Y.set b0 (.cells 22 [.int .u64 (F (pre ++ [p]) : Nat)])⟩)) :
    YPost H0 H3.next b0 (F l) env (om Try.prog ⟨fn, none⟩ lo (.rangeFunc f params A Bd) ⟨env, [], H3⟩) := by
  have q : YBl H0 lo b0 bc (H3.next + 1) H3.next (H3.next + 2) :=
    ⟨hlo, h0, by have := x.1; omega, by omega, by omega, by omega, by omega, hne, by omega, by omega, by omega, by omega⟩
  obtain ⟨H4, hH4⟩ : ∃ H4, H4 = (H3.push .dfr).push (.loop .ready none fn env params.toList A Bd H3.next) := ⟨_, rfl⟩
  have x4 : Ext H3 H4 := by rw [hH4]; exact ((Ext.refl _).push _).push _
  have inv0 : YInv H0 F b0 bc X (H3.next + 1) H3.next (.loop .ready none fn env params.toList A Bd H3.next) (H3.next + 2) [] H4 := by
    constructor
    · exact x.trans x4
    · rw [x4.2 _ m0]; exact g0
    · rw [x4.2 _ mc]; exact gc
    · rw [hH4, Heap.get_push]; simp
    · rw [hH4, Heap.get_push, Heap.get_push]; simp
    · rw [hH4]; simp
  obtain ⟨H5, c1, c2⟩ := yield_run lo (H3.next + 1) (H3.next + 2) b2 (by have := x.1; omega) l v (lay_width hL hn) (by omega) (YInv H0 F b0 bc X (H3.next + 1) H3.next (.loop .ready none fn env params.toList A Bd H3.next) (H3.next + 2))
    (fun pre H h => ⟨hR.ext h.ext, h.next⟩) (fun pre H H' h x => h.grow q x)
    (fun pre p r H hp h => by
      obtain ⟨env1, s1, s2⟩ := hset (.agg [.int .i64 p.1, .int .i64 p.2]) (.int .i64 (width pre : Nat))
      obtain ⟨env2, s3, s4⟩ := s2 pre p r H hp (by have := h.ext.1; omega) rfl rfl
      exact yround q h s1 s3 s4)
    H4 inv0 (by rw [x4.2 _ m2]; exact hb2)
  refine ⟨H5.kill (H3.next + 1), oy_range hf (by rw [hH4] at c1; exact c1) c2.loop, c2.ext.kill (by have := x.1; omega), ?_, ?_⟩
  · rw [Heap.get_kill, if_neg (by omega)]; exact c2.word
  · rw [Heap.get_kill, if_neg (by omega)]; exact c2.dfr
end Go.Proofs.Ytlbkcdfllglddaa.fmt
/-! Mask, Get and Put of the program: the calls. Conditions: in each statement. -/
namespace Go.Proofs.Ytlbkcdfllglddaa.fmt
open Go Go.Ab
set_option maxRecDepth 100000
set_option linter.unusedSimpArgs false
set_option linter.unusedVariables false
attribute [local simp] ox ou ko ky kn kd oy_seq oy_ret oy_exit oy_skip oy_cond oy_block oy_region oy_draw dr_eq dre_some stl_some st_nil st_op ot ov os_same sy_nil sy_op nxt_normal nxt_ret nxt_exit blk_exit blk_normal blk_ret reg_some cnd_true cnd_false opr_some grd_true grd_false fin_ret fin_normal finv_some Region.wanted opA callV aop evalL evalO putE binA bi_add bi_sub bi_mul bi_eql bi_neq bi_lss bi_leq bi_gtr bi_geq unA ofVal ofLeaf resultsA tupA AV.rfL AV.rf yielded_yv yv_bool yv_undef yv_none og_n List.replicate Option.bind heapFree onlyReads
theorem resCell {H : Heap} {env : List AV} {b : Nat} {a t : Tmp} {x : AV} {c : Int} (h : H.get b = some (.cells 22 [x])) (ha : env.getD a undefA = .ptr b 0) (ht : env.getD t undefA = .int .i64 c) : resultsA Try.prog H env [.cell a 22, .tmp t] = some [x, .int .i64 c] := by
  simp -implicitDefEqProofs only [resultsA, ha, ht, ld22, h, cellO_some, List.getElem?_cons_zero]
theorem rng20 : loopAt Try.f20 0 = .rangeFunc (.tmp 15) #[16, 17] (asgOf (loopAt Try.f20 0)) (bodOf (loopAt Try.f20 0)) := by kernel_rfl
set_option maxHeartbeats 4000000 in
theorem mask_run (size : Int) (l : List Pi) (v : AV) (lo : Nat) (H : Heap) (hR : Rd H v l) (hlo : lo ≤ H.next) (hl : l.length ≤ 1000) :
    ∃ H', callA Try.prog (om Try.prog) lo 20 [.int .i64 size, v] H = some (maskT size l, H') ∧ Ext H H' := by
  rw [call_eq Try.func20 rfl rfl]
  have hlo' := lo_le (own := AV.rfL [.int .i64 size, v]) hlo
  generalize (if AV.rfL [.int .i64 size, v] = true then H.next else lo) = lo' at hlo' ⊢
  generalize AV.rfL [.int .i64 size, v] = own
  have xp : Ext H (H.push (.cells 22 [.int .u64 0])) := (Ext.refl H).push _
  obtain ⟨H2, hc, x2⟩ := check_run size l v lo' (H.push (.cells 22 [.int .u64 0])) (hR.ext xp) (by simp; omega) hl
  have gp : (H.push (.cells 22 [.int .u64 0])).get H.next = some (.cells 22 [.int .u64 0]) := by rw [Heap.get_push, if_pos rfl]
  have g2 : H2.get H.next = some (.cells 22 [.int .u64 0]) := by rw [x2.2 _ (by simp)]; exact gp
  have hn2 : H.next < H2.next := by have := x2.1; simp at this; omega
  unfold maskT
  by_cases h0 : chkE size l = 0
  · rw [if_pos h0]
    rw [h0] at hc
    obtain ⟨n, lN, rfl, h1, h2, rfl, hL, h4⟩ := chk_ok h0
    obtain ⟨a1, a2, a3⟩ := hL.at64 h2
    have hsh := shifted_run (lN.map toPi) v lo' H2 (hR.ext (xp.trans x2))
    have x3 : Ext H2 (H2.push (.cells 39 [v])) := (Ext.refl _).push _
    have R := fun (env : List AV) => @yrange H (H2.push (.cells 39 [v])) (fun pre => orP (places pre)) lo' H.next H2.next H2.next n (.cells 39 [v]) 20 env (.tmp 15) #[16, 17] (asgOf (loopAt Try.f20 0)) (bodOf (loopAt Try.f20 0)) lN v hL h2 h4 hR
    rw [natl_map]
    have hrg := rng20
    generalize hA : asgOf (loopAt Try.f20 0) = A at R hrg
    generalize hB : bodOf (loopAt Try.f20 0) = Bd at R hrg
    simp -implicitDefEqProofs +decide only [loopAt, loopIn, firstC, Try.f20, Option.getD, if_true, if_false] at hrg
    simp -implicitDefEqProofs only [Try.f20]
    simp -implicitDefEqProofs only [ox, ou, ko, ky, kn, kd, oy_seq, oy_ret, oy_exit, oy_skip, oy_cond, oy_block, oy_region, oy_draw, dr_eq, dre_some, stl_some, st_nil, st_op, ot, ov, os_same, sy_nil, sy_op, nxt_normal, nxt_ret, nxt_exit, blk_exit, blk_normal, blk_ret, reg_some, cnd_true, cnd_false, opr_some, grd_true, grd_false, fin_ret, fin_normal, finv_some, Region.wanted, opA, callV, aop, evalL, evalO, putE, binA, bi_add, bi_sub, bi_mul, bi_eql, bi_neq, bi_lss, bi_leq, bi_gtr, bi_geq, unA, ofVal, ofLeaf, resultsA, tupA, AV.rfL, AV.rf, yielded_yv, yv_bool, yv_undef, yv_none, og_n, List.replicate, Option.bind, heapFree, onlyReads, List.set, List.getD, List.getElem?_cons_succ, List.getElem?_cons_zero, Option.getD, Option.map, decide_true, decide_false, if_true, if_false, Bool.false_eq_true, Bool.not_true, Bool.not_false, beq_self_eq_true, Bool.true_and, Bool.and_true, Bool.and_self, Bool.false_and, Bool.and_false, Bool.true_or, Bool.or_true, Bool.false_or, Bool.or_false, Bool.or_self, List.length_cons, List.length_nil, List.cons_append, List.nil_append, ite_self, List.getElem?_toArray, Option.bind_some, Option.bind_none, og_tt, og_ff, og_tf, og_ft, Int.reduceBNe, Int.reduceBEq, Int.reduceLT, Int.reduceLE, sz22, ze22, AV.cells, leafs, leafA, List.all_cons, List.all_nil, hc, hsh, Option.map]
    rw [hrg]
    generalize hr : om Try.prog _ _ (Code.rangeFunc _ _ _ _) _ = r
    have P : ∃ y0 y1 y2 y3 y5 y6 y7 y8 y9 y10 y11 y12 y13 y14 y15 y16 y17 y18 y19 y20 y21 y22 y23 y24 y25 y26, YPost H (H2.next + 1) H.next (orP (places lN)) [y0, y1, y2, y3, .ptr H.next 0, y5, y6, y7, y8, y9, y10, y11, y12, y13, y14, y15, y16, y17, y18, y19, y20, y21, y22, y23, y24, y25, y26] r := by
      rw [← hr]
      exact ⟨_, _, _, _, _, _, _, _, _, _, _, _, _, _, _, _, _, _, _, _, _, _, _, _, _, _, R _ (by rfl) hlo' (xp.trans (x2.trans x3)) (Nat.le_refl _) (by simp; omega) (by simp) (by simp) (by omega) (by rw [Heap.get_push, if_pos rfl]) (by rw [x3.2 _ hn2]; exact g2) (by rw [Heap.get_push, if_pos rfl]) (by
        intro a b
        refine ⟨_, rfl, ?_⟩
        intro pre p r H' hp hlo2 ea eb
        subst ea eb
        have hmem : p ∈ lN := by rw [← hp]; simp
        have hp1 := (hL.1 p hmem).1
        have hp2 := a1 p hmem
        rw [← hA, ← hB]
        obtain ⟨e7, s⟩ := mask_asg ⟨20, some ((H2.push (.cells 39 [v])).next + 1)⟩ lo' H' hlo2 p.1 p.2 _ _ _ _ _ _ _ _ _ _ _ _ _ _ _ _ _ _ _ _ _ _ _ _ _ _
        refine ⟨_, s, fun Y y1 y2 y3 => ?_⟩
        have hm64 : orP (places pre) < 2 ^ 64 := orP_lt fun i hi => a3 i (by rw [← hp]; simp [places] at hi ⊢; exact .inl hi)
        obtain ⟨env3, t⟩ := mask_bod ⟨20, some ((H2.push (.cells 39 [v])).next + 1)⟩ lo' Y H.next H'.next (orP (places pre)) p hp1 hp2 hm64 y1 y3 (by omega) _ _ _ _ _ _ _ _ _ _ _ _ _ _ _ _ _ _ _ _ _ _ _ _ _
        refine ⟨env3, ?_⟩
        rw [orP_places]
        exact t)⟩
    obtain ⟨y0, y1, y2, y3, y5, y6, y7, y8, y9, y10, y11, y12, y13, y14, y15, y16, y17, y18, y19, y20, y21, y22, y23, y24, y25, y26, H5, rfl, p2, p3, p4⟩ := P
    clear hr R hrg
    obtain ⟨z, hz⟩ : ∃ z, z = orP (places lN) := ⟨_, rfl⟩
    rw [← hz] at p3 ⊢
    have hs := st22 (n := (z : Int)) p3 hlo'
    have d1 : (H5.set H.next (.cells 22 [.int .u64 (z : Int)])).get (H2.next + 1) = some .dfr := by rw [Heap.get_set, if_neg (by omega)]; exact p4
    have g5 : ((H5.set H.next (.cells 22 [.int .u64 (z : Int)])).kill (H2.next + 1)).get H.next = some (.cells 22 [.int .u64 (z : Int)]) := by
      rw [Heap.get_kill, if_neg (by omega), Heap.get_set, if_pos rfl]
    simp -implicitDefEqProofs only [ox, ou, ko, ky, kn, kd, oy_seq, oy_ret, oy_exit, oy_skip, oy_cond, oy_block, oy_region, oy_draw, dr_eq, dre_some, stl_some, st_nil, st_op, ot, ov, os_same, sy_nil, sy_op, nxt_normal, nxt_ret, nxt_exit, blk_exit, blk_normal, blk_ret, reg_some, cnd_true, cnd_false, opr_some, grd_true, grd_false, fin_ret, fin_normal, finv_some, Region.wanted, opA, callV, aop, evalL, evalO, putE, binA, bi_add, bi_sub, bi_mul, bi_eql, bi_neq, bi_lss, bi_leq, bi_gtr, bi_geq, unA, ofVal, ofLeaf, resultsA, tupA, AV.rfL, AV.rf, yielded_yv, yv_bool, yv_undef, yv_none, og_n, List.replicate, Option.bind, heapFree, onlyReads, List.set, List.getD, List.getElem?_cons_succ, List.getElem?_cons_zero, Option.getD, Option.map, decide_true, decide_false, if_true, if_false, Bool.false_eq_true, Bool.not_true, Bool.not_false, beq_self_eq_true, Bool.true_and, Bool.and_true, Bool.and_self, Bool.false_and, Bool.and_false, Bool.true_or, Bool.or_true, Bool.false_or, Bool.or_false, Bool.or_self, List.length_cons, List.length_nil, List.cons_append, List.nil_append, ite_self, List.getElem?_toArray, Option.bind_some, Option.bind_none, og_tt, og_ff, og_tf, og_ft, Int.reduceBNe, Int.reduceBEq, Int.reduceLT, Int.reduceLE, ld22, p3, cellO_some, hs, fin_mark d1, g5, Option.map]
    exact if_out ((p2.set (Nat.le_refl _) _).kill (by omega))
  · rw [if_neg h0]
    have hne : (chkE size l != 0) = true := by simp [h0]
    have hs := st22 (n := 0) g2 hlo'
    have g3 : (H2.set H.next (.cells 22 [.int .u64 0])).get H.next = some (.cells 22 [.int .u64 0]) := by rw [Heap.get_set, if_pos rfl]
    simp -implicitDefEqProofs only [Try.f20]
    simp -implicitDefEqProofs only [ox, ou, ko, ky, kn, kd, oy_seq, oy_ret, oy_exit, oy_skip, oy_cond, oy_block, oy_region, oy_draw, dr_eq, dre_some, stl_some, st_nil, st_op, ot, ov, os_same, sy_nil, sy_op, nxt_normal, nxt_ret, nxt_exit, blk_exit, blk_normal, blk_ret, reg_some, cnd_true, cnd_false, opr_some, grd_true, grd_false, fin_ret, fin_normal, finv_some, Region.wanted, opA, callV, aop, evalL, evalO, putE, binA, bi_add, bi_sub, bi_mul, bi_eql, bi_neq, bi_lss, bi_leq, bi_gtr, bi_geq, unA, ofVal, ofLeaf, resultsA, tupA, AV.rfL, AV.rf, yielded_yv, yv_bool, yv_undef, yv_none, og_n, List.replicate, Option.bind, heapFree, onlyReads, List.set, List.getD, List.getElem?_cons_succ, List.getElem?_cons_zero, Option.getD, Option.map, decide_true, decide_false, if_true, if_false, Bool.false_eq_true, Bool.not_true, Bool.not_false, beq_self_eq_true, Bool.true_and, Bool.and_true, Bool.and_self, Bool.false_and, Bool.and_false, Bool.true_or, Bool.or_true, Bool.false_or, Bool.or_false, Bool.or_self, List.length_cons, List.length_nil, List.cons_append, List.nil_append, ite_self, List.getElem?_toArray, Option.bind_some, Option.bind_none, og_tt, og_ff, og_tf, og_ft, Int.reduceBNe, Int.reduceBEq, Int.reduceLT, Int.reduceLE, sz22, ze22, AV.cells, leafs, leafA, List.all_cons, List.all_nil, hc, hne, hs, ld22, g3, cellO_some, Option.map]
    exact if_out ((xp.trans x2).set (Nat.le_refl _) _)
end Go.Proofs.Ytlbkcdfllglddaa.fmt
/-! Get of the program: the interpreter's runs. Conditions: in each statement. -/
namespace Go.Proofs.Ytlbkcdfllglddaa.fmt
open Go Go.Ab
set_option maxRecDepth 100000
set_option linter.unusedSimpArgs false
set_option linter.unusedVariables false
attribute [local simp] ox ou ko ky kn kd oy_seq oy_ret oy_exit oy_skip oy_cond oy_block oy_region oy_draw dr_eq dre_some stl_some st_nil st_op ot ov os_same sy_nil sy_op nxt_normal nxt_ret nxt_exit blk_exit blk_normal blk_ret reg_some cnd_true cnd_false opr_some grd_true grd_false fin_ret fin_normal finv_some Region.wanted opA callV aop evalL evalO putE binA bi_add bi_sub bi_mul bi_eql bi_neq bi_lss bi_leq bi_gtr bi_geq unA ofVal ofLeaf resultsA tupA AV.rfL AV.rf yielded_yv yv_bool yv_undef yv_none og_n List.replicate Option.bind heapFree onlyReads
theorem get_asg (cx : Ctx) (lo : Nat) (H : Heap) (hlo : lo ≤ H.next) (a b : Int) (c : AV) (x0 x1 x2 x3 x4 x5 x6 x7 x8 x9 x10 x11 x12 x13 x14 x15 x16 x17 x18 x19 x20 x21 x22 x25 x26 x27 x28 x29 x30 x31 x32 x33 x34 x35 x36 x37 : AV) :
    om Try.prog cx lo (asgOf (loopAt Try.f24 0)) ⟨[x0, x1, x2, x3, x4, x5, x6, x7, x8, x9, x10, x11, x12, x13, x14, x15, x16, x17, x18, x19, x20, x21, x22, .agg [.int .i64 a, .int .i64 b], c, x25, x26, x27, x28, x29, x30, x31, x32, x33, x34, x35, x36, x37], [], H⟩ = some (.normal, ⟨[x0, x1, x2, x3, x4, x5, x6, x7, x8, .ptr H.next 0, c, x11, x12, x13, x14, x15, x16, x17, x18, x19, x20, x21, x22, .agg [.int .i64 a, .int .i64 b], c, x25, x26, x27, x28, x29, x30, x31, x32, x33, x34, x35, x36, x37], [], (H.push (.cells 49 [.int .i64 0, .int .i64 0])).set H.next (.cells 49 [.int .i64 a, .int .i64 b])⟩) := by
  simp -implicitDefEqProofs +decide only [asgOf, loopAt, loopIn, firstC, Try.f24, Option.getD, if_true, if_false]
  simp -implicitDefEqProofs only [ox, ou, ko, ky, kn, kd, oy_seq, oy_ret, oy_exit, oy_skip, oy_cond, oy_block, oy_region, oy_draw, dr_eq, dre_some, stl_some, st_nil, st_op, ot, ov, os_same, sy_nil, sy_op, nxt_normal, nxt_ret, nxt_exit, blk_exit, blk_normal, blk_ret, reg_some, cnd_true, cnd_false, opr_some, grd_true, grd_false, fin_ret, fin_normal, finv_some, Region.wanted, opA, callV, aop, evalL, evalO, putE, binA, bi_add, bi_sub, bi_mul, bi_eql, bi_neq, bi_lss, bi_leq, bi_gtr, bi_geq, unA, ofVal, ofLeaf, resultsA, tupA, AV.rfL, AV.rf, yielded_yv, yv_bool, yv_undef, yv_none, og_n, List.replicate, Option.bind, heapFree, onlyReads, List.set, List.getD, List.getElem?_cons_succ, List.getElem?_cons_zero, Option.getD, Option.map, decide_true, decide_false, if_true, if_false, Bool.false_eq_true, Bool.not_true, Bool.not_false, beq_self_eq_true, Bool.true_and, Bool.and_true, Bool.and_self, Bool.false_and, Bool.and_false, Bool.true_or, Bool.or_true, Bool.false_or, Bool.or_false, Bool.or_self, List.length_cons, List.length_nil, List.cons_append, List.nil_append, ite_self, List.getElem?_toArray, Option.bind_some, Option.bind_none, og_tt, og_ff, og_tf, og_ft, Int.reduceBNe, Int.reduceBEq, Int.reduceLT, Int.reduceLE, sz49, ze49, AV.cells, leafs, leafA, List.all_cons, List.all_nil, new49 H lo hlo, Option.map]
set_option maxHeartbeats 1000000 in
theorem get_bod (cx : Ctx) (lo : Nat) (H : Heap) (b0 bc b9 f w : Nat) (at' : Nat) (p : Pc) (h1 : 1 ≤ p.2) (h2 : p.1 + p.2 ≤ 64) (hat : at' ≤ 64) (hw : w < 2 ^ 64) (hf : f < 2 ^ 64)
    (g0 : H.get b0 = some (.cells 22 [.int .u64 (f : Int)])) (gc : H.get bc = some (.cells 22 [.int .u64 (w : Int)])) (g9 : H.get b9 = some (.cells 49 [.int .i64 p.1, .int .i64 p.2])) (hlo : lo ≤ b0) (x0 x1 x2 x3 x5 x7 x8 x11 x12 x13 x14 x15 x16 x17 x18 x19 x20 x21 x22 x23 x24 x25 x26 x27 x28 x29 x30 x31 x32 x33 x34 x35 x36 x37 : AV) :
    ∃ env', om Try.prog cx lo (bodOf (loopAt Try.f24 0)) ⟨[x0, x1, x2, x3, .ptr bc 0, x5, .ptr b0 0, x7, x8, .ptr b9 0, .int .i64 at', x11, x12, x13, x14, x15, x16, x17, x18, x19, x20, x21, x22, x23, x24, x25, x26, x27, x28, x29, x30, x31, x32, x33, x34, x35, x36, x37], [], H⟩ = some (.normal, ⟨env', [], H.set b0 (.cells 22 [.int .u64 (f ||| ((w / 2 ^ p.1 &&& (2 ^ p.2 - 1)) * 2 ^ at' % 2 ^ 64) : Nat)])⟩) := by
  have d9 := dr24_9
  simp -implicitDefEqProofs +decide only [regAt, regIn, Option.getD, Try.f24, if_true, if_false] at d9
  simp -implicitDefEqProofs +decide only [bodOf, loopAt, loopIn, firstC, Try.f24, Option.getD, if_true, if_false]
  have hmk := bmask_run p.2 h1 (by omega)
  have hml : 2 ^ p.2 - 1 < 2 ^ 64 := by have := two_pow_le (show p.2 ≤ 64 by omega); omega
  generalize 2 ^ p.2 - 1 = mk at hmk hml ⊢
  have hs := u64_shr (a := w) (y := p.1) (by omega)
  have hx : w / 2 ^ p.1 < 2 ^ 64 := Nat.lt_of_le_of_lt (Nat.div_le_self _ _) hw
  generalize w / 2 ^ p.1 = x at hs hx ⊢
  have ha := Go.Ab.u64_and hx hml
  generalize x &&& mk = y at ha ⊢
  have hl := u64_shl (a := y) (y := at') hat
  have hz : y * 2 ^ at' % 2 ^ 64 < 2 ^ 64 := Nat.mod_lt _ (Nat.two_pow_pos _)
  generalize y * 2 ^ at' % 2 ^ 64 = z at hl hz ⊢
  have ho := Go.Ab.u64_or hf hz
  generalize f ||| z = r at ho ⊢
  simp -implicitDefEqProofs only [ox, ou, ko, ky, kn, kd, oy_seq, oy_ret, oy_exit, oy_skip, oy_cond, oy_block, oy_region, oy_draw, dr_eq, dre_some, stl_some, st_nil, st_op, ot, ov, os_same, sy_nil, sy_op, nxt_normal, nxt_ret, nxt_exit, blk_exit, blk_normal, blk_ret, reg_some, cnd_true, cnd_false, opr_some, grd_true, grd_false, fin_ret, fin_normal, finv_some, Region.wanted, opA, callV, aop, evalL, evalO, putE, binA, bi_add, bi_sub, bi_mul, bi_eql, bi_neq, bi_lss, bi_leq, bi_gtr, bi_geq, unA, ofVal, ofLeaf, resultsA, tupA, AV.rfL, AV.rf, yielded_yv, yv_bool, yv_undef, yv_none, og_n, List.replicate, Option.bind, heapFree, onlyReads, List.set, List.getD, List.getElem?_cons_succ, List.getElem?_cons_zero, Option.getD, Option.map, decide_true, decide_false, if_true, if_false, Bool.false_eq_true, Bool.not_true, Bool.not_false, beq_self_eq_true, Bool.true_and, Bool.and_true, Bool.and_self, Bool.false_and, Bool.and_false, Bool.true_or, Bool.or_true, Bool.false_or, Bool.or_false, Bool.or_self, List.length_cons, List.length_nil, List.cons_append, List.nil_append, ite_self, List.getElem?_toArray, Option.bind_some, Option.bind_none, og_tt, og_ff, og_tf, og_ft, Int.reduceBNe, Int.reduceBEq, Int.reduceLT, Int.reduceLE, d9, ld22, ld3, fa0, fa1, g0, gc, g9, cellO_some, hmk, hs, ha, hl, ho, List.take, List.drop, st22 g0 hlo, Nat.zero_add, Option.map]
  exact ⟨_, rfl⟩
theorem rng24 : loopAt Try.f24 0 = .rangeFunc (.tmp 22) #[23, 24] (asgOf (loopAt Try.f24 0)) (bodOf (loopAt Try.f24 0)) := by kernel_rfl
set_option maxHeartbeats 4000000 in
theorem get_run (size : Int) (w : Nat) (hw : w < 2 ^ 64) (l : List Pi) (v : AV) (lo : Nat) (H : Heap) (hR : Rd H v l) (hlo : lo ≤ H.next) (hl : l.length ≤ 1000) :
    ∃ H', callA Try.prog (om Try.prog) lo 24 [.int .i64 size, .int .u64 w, v] H = some (getT size w l, H') ∧ Ext H H' := by
  rw [call_eq Try.func24 rfl rfl]
  have hlo' := lo_le (own := AV.rfL [.int .i64 size, .int .u64 w, v]) hlo
  generalize (if AV.rfL [.int .i64 size, .int .u64 w, v] = true then H.next else lo) = lo' at hlo' ⊢
  generalize AV.rfL [.int .i64 size, .int .u64 w, v] = own
  obtain ⟨H1, hH1⟩ : ∃ H1, H1 = (H.push (.cells 22 [.int .u64 (w : Int)])).push (.cells 22 [.int .u64 0]) := ⟨_, rfl⟩
  have xp : Ext H H1 := by rw [hH1]; exact ((Ext.refl H).push _).push _
  have hn1 : H1.next = H.next + 2 := by rw [hH1]; simp
  have gw1 : H1.get H.next = some (.cells 22 [.int .u64 (w : Int)]) := by rw [hH1, Heap.get_push]; simp [Heap.get_push]
  have g01 : H1.get (H.next + 1) = some (.cells 22 [.int .u64 0]) := by rw [hH1, Heap.get_push]; simp
  obtain ⟨H2, hc, x2⟩ := check_run size l v lo' H1 (hR.ext xp) (by omega) hl
  have gw : H2.get H.next = some (.cells 22 [.int .u64 (w : Int)]) := by rw [x2.2 _ (by omega)]; exact gw1
  have g0 : H2.get (H.next + 1) = some (.cells 22 [.int .u64 0]) := by rw [x2.2 _ (by omega)]; exact g01
  have hn2 : H.next + 1 < H2.next := by have := x2.1; omega
  have hs0 := st22 (n := 0) g0 (show lo' ≤ H.next + 1 by omega)
  have g3 : (H2.set (H.next + 1) (.cells 22 [.int .u64 0])).get (H.next + 1) = some (.cells 22 [.int .u64 0]) := by rw [Heap.get_set, if_pos rfl]
  have hnx : (H.push (.cells 22 [.int .u64 (w : Int)])).next = H.next + 1 := rfl
  unfold getT
  by_cases h0 : chkE size l = 0
  · rw [if_pos h0]
    rw [h0] at hc
    obtain ⟨n, lN, rfl, h1, h2, rfl, hL, h4⟩ := chk_ok h0
    obtain ⟨a1, a2, a3⟩ := hL.at64 h2
    have hft := fun lo H => fits_run w hw n lo H
    rw [Int.toNat_natCast]
    by_cases hwn : w < 2 ^ n
    · rw [if_pos hwn]
      simp only [hwn, decide_true] at hft
      have hsh := shifted_run (lN.map toPi) v lo' H2 (hR.ext (xp.trans x2))
      have x3 : Ext H2 (H2.push (.cells 39 [v])) := (Ext.refl _).push _
      have R := fun (env : List AV) => @yrange H (H2.push (.cells 39 [v])) (fun pre => getF (places pre) w) lo' (H.next + 1) H.next H2.next n (.cells 22 [.int .u64 (w : Int)]) 24 env (.tmp 22) #[23, 24] (asgOf (loopAt Try.f24 0)) (bodOf (loopAt Try.f24 0)) lN v hL h2 h4 hR
      rw [natl_map]
      have hrg := rng24
      generalize hA : asgOf (loopAt Try.f24 0) = A at R hrg
      generalize hB : bodOf (loopAt Try.f24 0) = Bd at R hrg
      simp -implicitDefEqProofs +decide only [loopAt, loopIn, firstC, Try.f24, Option.getD, if_true, if_false] at hrg
      simp -implicitDefEqProofs only [Try.f24]
      simp -implicitDefEqProofs only [ox, ou, ko, ky, kn, kd, oy_seq, oy_ret, oy_exit, oy_skip, oy_cond, oy_block, oy_region, oy_draw, dr_eq, dre_some, stl_some, st_nil, st_op, ot, ov, os_same, sy_nil, sy_op, nxt_normal, nxt_ret, nxt_exit, blk_exit, blk_normal, blk_ret, reg_some, cnd_true, cnd_false, opr_some, grd_true, grd_false, fin_ret, fin_normal, finv_some, Region.wanted, opA, callV, aop, evalL, evalO, putE, binA, bi_add, bi_sub, bi_mul, bi_eql, bi_neq, bi_lss, bi_leq, bi_gtr, bi_geq, unA, ofVal, ofLeaf, resultsA, tupA, AV.rfL, AV.rf, yielded_yv, yv_bool, yv_undef, yv_none, og_n, List.replicate, Option.bind, heapFree, onlyReads, List.set, List.getD, List.getElem?_cons_succ, List.getElem?_cons_zero, Option.getD, Option.map, decide_true, decide_false, if_true, if_false, Bool.false_eq_true, Bool.not_true, Bool.not_false, beq_self_eq_true, Bool.true_and, Bool.and_true, Bool.and_self, Bool.false_and, Bool.and_false, Bool.true_or, Bool.or_true, Bool.false_or, Bool.or_false, Bool.or_self, List.length_cons, List.length_nil, List.cons_append, List.nil_append, ite_self, List.getElem?_toArray, Option.bind_some, Option.bind_none, og_tt, og_ff, og_tf, og_ft, Int.reduceBNe, Int.reduceBEq, Int.reduceLT, Int.reduceLE, sz22, ze22, AV.cells, leafs, leafA, List.all_cons, List.all_nil, ← hH1, hc, ld22, hnx, gw, cellO_some, hft, hsh, Option.map]
      rw [hrg]
      generalize hr : om Try.prog _ _ (Code.rangeFunc _ _ _ _) _ = r
      have P : ∃ y0 y1 y2 y3 y4 y5 y8 y9 y10 y11 y12 y13 y14 y15 y16 y17 y18 y19 y20 y21 y22 y23 y24 y25 y26 y27 y28 y29 y30 y31 y32 y33 y34 y35 y36 y37, YPost H (H2.next + 1) (H.next + 1) (getF (places lN) w) [y0, y1, y2, y3, y4, y5, .ptr (H.next + 1) 0, .int .i64 0, y8, y9, y10, y11, y12, y13, y14, y15, y16, y17, y18, y19, y20, y21, y22, y23, y24, y25, y26, y27, y28, y29, y30, y31, y32, y33, y34, y35, y36, y37] r := by
        rw [← hr]
        exact ⟨_, _, _, _, _, _, _, _, _, _, _, _, _, _, _, _, _, _, _, _, _, _, _, _, _, _, _, _, _, _, _, _, _, _, _, _, R _ (by rfl) hlo' (xp.trans (x2.trans x3)) (by omega) (by simp; omega) (by simp; omega) (by simp) (by omega) (by rw [Heap.get_push, if_pos rfl]) (by rw [x3.2 _ (by omega)]; exact g0) (by rw [x3.2 _ (by omega)]; exact gw) (by
          intro a b
          refine ⟨_, rfl, ?_⟩
          intro pre p r H' hp hlo2 ea eb
          subst ea eb
          have hmem : p ∈ lN := by rw [← hp]; simp
          have hp1 := (hL.1 p hmem).1
          have hp2 := a1 p hmem
          have hlp : Lay n (pre ++ [p]) := by
            have : (pre ++ [p]) ++ r = lN := by rw [← hp]; simp
            rw [← this] at hL; exact hL.pre
          have hwp := lay_width hL h2 pre (p :: r) hp
          rw [← hA, ← hB]
          refine ⟨_, get_asg _ lo' H' hlo2 p.1 p.2 _ _ _ _ _ _ _ _ _ _ _ _ _ _ _ _ _ _ _ _ _ _ _ _ _ _ _ _ _ _ _ _ _ _ _ _ _, fun Y y1 y2 y3 => ?_⟩
          have hf64 : getF (places pre) w < 2 ^ 64 := Nat.lt_of_lt_of_le (getF_lt w _) (two_pow_le (by unfold width at hwp; omega))
          have hst := get_step hlp h2 w
          rw [← hst]
          exact get_bod _ lo' Y (H.next + 1) H.next H'.next (getF (places pre) w) w (width pre) p hp1 hp2 hwp hw hf64 y1 y2 y3 (by omega) _ _ _ _ _ _ _ _ _ _ _ _ _ _ _ _ _ _ _ _ _ _ _ _ _ _ _ _ _ _ _ _ _ _)⟩
      obtain ⟨y0, y1, y2, y3, y4, y5, y8, y9, y10, y11, y12, y13, y14, y15, y16, y17, y18, y19, y20, y21, y22, y23, y24, y25, y26, y27, y28, y29, y30, y31, y32, y33, y34, y35, y36, y37, H5, rfl, p2, p3, p4⟩ := P
      clear hr R hrg
      obtain ⟨z, hz⟩ : ∃ z, z = getF (places lN) w := ⟨_, rfl⟩
      rw [← hz] at p3 ⊢
      have hs := st22 (n := (z : Int)) p3 (show lo' ≤ H.next + 1 by omega)
      have d1 : (H5.set (H.next + 1) (.cells 22 [.int .u64 (z : Int)])).get (H2.next + 1) = some .dfr := by rw [Heap.get_set, if_neg (by omega)]; exact p4
      have g5 : ((H5.set (H.next + 1) (.cells 22 [.int .u64 (z : Int)])).kill (H2.next + 1)).get (H.next + 1) = some (.cells 22 [.int .u64 (z : Int)]) := by
        rw [Heap.get_kill, if_neg (by omega), Heap.get_set, if_pos rfl]
      simp -implicitDefEqProofs only [ox, ou, ko, ky, kn, kd, oy_seq, oy_ret, oy_exit, oy_skip, oy_cond, oy_block, oy_region, oy_draw, dr_eq, dre_some, stl_some, st_nil, st_op, ot, ov, os_same, sy_nil, sy_op, nxt_normal, nxt_ret, nxt_exit, blk_exit, blk_normal, blk_ret, reg_some, cnd_true, cnd_false, opr_some, grd_true, grd_false, fin_ret, fin_normal, finv_some, Region.wanted, opA, callV, aop, evalL, evalO, putE, binA, bi_add, bi_sub, bi_mul, bi_eql, bi_neq, bi_lss, bi_leq, bi_gtr, bi_geq, unA, ofVal, ofLeaf, resultsA, tupA, AV.rfL, AV.rf, yielded_yv, yv_bool, yv_undef, yv_none, og_n, List.replicate, Option.bind, heapFree, onlyReads, List.set, List.getD, List.getElem?_cons_succ, List.getElem?_cons_zero, Option.getD, Option.map, decide_true, decide_false, if_true, if_false, Bool.false_eq_true, Bool.not_true, Bool.not_false, beq_self_eq_true, Bool.true_and, Bool.and_true, Bool.and_self, Bool.false_and, Bool.and_false, Bool.true_or, Bool.or_true, Bool.false_or, Bool.or_false, Bool.or_self, List.length_cons, List.length_nil, List.cons_append, List.nil_append, ite_self, List.getElem?_toArray, Option.bind_some, Option.bind_none, og_tt, og_ff, og_tf, og_ft, Int.reduceBNe, Int.reduceBEq, Int.reduceLT, Int.reduceLE, ld22, p3, cellO_some, hs, fin_mark d1, g5, Option.map]
      exact if_out ((p2.set (by omega) _).kill (by omega))
    · rw [if_neg hwn]
      simp only [hwn, decide_false] at hft
      simp -implicitDefEqProofs only [Try.f24]
      simp -implicitDefEqProofs only [ox, ou, ko, ky, kn, kd, oy_seq, oy_ret, oy_exit, oy_skip, oy_cond, oy_block, oy_region, oy_draw, dr_eq, dre_some, stl_some, st_nil, st_op, ot, ov, os_same, sy_nil, sy_op, nxt_normal, nxt_ret, nxt_exit, blk_exit, blk_normal, blk_ret, reg_some, cnd_true, cnd_false, opr_some, grd_true, grd_false, fin_ret, fin_normal, finv_some, Region.wanted, opA, callV, aop, evalL, evalO, putE, binA, bi_add, bi_sub, bi_mul, bi_eql, bi_neq, bi_lss, bi_leq, bi_gtr, bi_geq, unA, ofVal, ofLeaf, resultsA, tupA, AV.rfL, AV.rf, yielded_yv, yv_bool, yv_undef, yv_none, og_n, List.replicate, Option.bind, heapFree, onlyReads, List.set, List.getD, List.getElem?_cons_succ, List.getElem?_cons_zero, Option.getD, Option.map, decide_true, decide_false, if_true, if_false, Bool.false_eq_true, Bool.not_true, Bool.not_false, beq_self_eq_true, Bool.true_and, Bool.and_true, Bool.and_self, Bool.false_and, Bool.and_false, Bool.true_or, Bool.or_true, Bool.false_or, Bool.or_false, Bool.or_self, List.length_cons, List.length_nil, List.cons_append, List.nil_append, ite_self, List.getElem?_toArray, Option.bind_some, Option.bind_none, og_tt, og_ff, og_tf, og_ft, Int.reduceBNe, Int.reduceBEq, Int.reduceLT, Int.reduceLE, sz22, ze22, AV.cells, leafs, leafA, List.all_cons, List.all_nil, ← hH1, hc, ld22, hnx, gw, cellO_some, hft, hs0, g3, Option.map]
      exact if_out ((xp.trans x2).set (by omega) _)
  · rw [if_neg h0]
    have hne : (chkE size l != 0) = true := by simp [h0]
    simp -implicitDefEqProofs only [Try.f24]
    simp -implicitDefEqProofs only [ox, ou, ko, ky, kn, kd, oy_seq, oy_ret, oy_exit, oy_skip, oy_cond, oy_block, oy_region, oy_draw, dr_eq, dre_some, stl_some, st_nil, st_op, ot, ov, os_same, sy_nil, sy_op, nxt_normal, nxt_ret, nxt_exit, blk_exit, blk_normal, blk_ret, reg_some, cnd_true, cnd_false, opr_some, grd_true, grd_false, fin_ret, fin_normal, finv_some, Region.wanted, opA, callV, aop, evalL, evalO, putE, binA, bi_add, bi_sub, bi_mul, bi_eql, bi_neq, bi_lss, bi_leq, bi_gtr, bi_geq, unA, ofVal, ofLeaf, resultsA, tupA, AV.rfL, AV.rf, yielded_yv, yv_bool, yv_undef, yv_none, og_n, List.replicate, Option.bind, heapFree, onlyReads, List.set, List.getD, List.getElem?_cons_succ, List.getElem?_cons_zero, Option.getD, Option.map, decide_true, decide_false, if_true, if_false, Bool.false_eq_true, Bool.not_true, Bool.not_false, beq_self_eq_true, Bool.true_and, Bool.and_true, Bool.and_self, Bool.false_and, Bool.and_false, Bool.true_or, Bool.or_true, Bool.false_or, Bool.or_false, Bool.or_self, List.length_cons, List.length_nil, List.cons_append, List.nil_append, ite_self, List.getElem?_toArray, Option.bind_some, Option.bind_none, og_tt, og_ff, og_tf, og_ft, Int.reduceBNe, Int.reduceBEq, Int.reduceLT, Int.reduceLE, sz22, ze22, AV.cells, leafs, leafA, List.all_cons, List.all_nil, ← hH1, hc, hne, hnx, hs0, ld22, g3, cellO_some, Option.map]
    exact if_out ((xp.trans x2).set (by omega) _)
end Go.Proofs.Ytlbkcdfllglddaa.fmt
/-! Put of the program: the interpreter's runs. Conditions: in each statement. -/
namespace Go.Proofs.Ytlbkcdfllglddaa.fmt
open Go Go.Ab
set_option maxRecDepth 100000
set_option linter.unusedSimpArgs false
set_option linter.unusedVariables false
attribute [local simp] ox ou ko ky kn kd oy_seq oy_ret oy_exit oy_skip oy_cond oy_block oy_region oy_draw dr_eq dre_some stl_some st_nil st_op ot ov os_same sy_nil sy_op nxt_normal nxt_ret nxt_exit blk_exit blk_normal blk_ret reg_some cnd_true cnd_false opr_some grd_true grd_false fin_ret fin_normal finv_some Region.wanted opA callV aop evalL evalO putE binA bi_add bi_sub bi_mul bi_eql bi_neq bi_lss bi_leq bi_gtr bi_geq unA ofVal ofLeaf resultsA tupA AV.rfL AV.rf yielded_yv yv_bool yv_undef yv_none og_n List.replicate Option.bind heapFree onlyReads
/-- the word while the pieces are put: the word, and how many bits have been put -/
def putW (w0 f : Nat) (l : List Pc) : Nat × Nat := l.foldl (fun acc p => (acc.1 ||| ((f / 2 ^ acc.2 &&& (2 ^ p.2 - 1)) * 2 ^ p.1 % 2 ^ 64), acc.2 + p.2)) (w0, 0)
theorem putW_two (w0 f : Nat) (l : List Pc) : (putW w0 f l).2 = width l := by
  have : ∀ (l : List Pc) (acc : Nat × Nat), (l.foldl (fun acc p => (acc.1 ||| ((f / 2 ^ acc.2 &&& (2 ^ p.2 - 1)) * 2 ^ p.1 % 2 ^ 64), acc.2 + p.2)) acc).2 = acc.2 + width l := by
    intro l
    induction l with
    | nil => intro acc; simp [width, places]
    | cons p l ih => intro acc; rw [List.foldl_cons, ih]; simp [width, places_cons, run_len]; omega
  have h := this l (w0, 0)
  simpa [putW] using h
theorem putW_snoc (w0 f : Nat) (l : List Pc) (p : Pc) : (putW w0 f (l ++ [p])).1 = (putW w0 f l).1 ||| ((f / 2 ^ width l &&& (2 ^ p.2 - 1)) * 2 ^ p.1 % 2 ^ 64) := by
  have h := putW_two w0 f l
  unfold putW at h ⊢
  rw [List.foldl_append, List.foldl_cons, List.foldl_nil, h]
theorem putW_lt {w0 : Nat} (f : Nat) (hw : w0 < 2 ^ 64) : ∀ (l : List Pc), (putW w0 f l).1 < 2 ^ 64 := by
  have : ∀ (l : List Pc) (acc : Nat × Nat), acc.1 < 2 ^ 64 → (l.foldl (fun acc p => (acc.1 ||| ((f / 2 ^ acc.2 &&& (2 ^ p.2 - 1)) * 2 ^ p.1 % 2 ^ 64), acc.2 + p.2)) acc).1 < 2 ^ 64 := by
    intro l
    induction l with
    | nil => intro acc h; exact h
    | cons p l ih => intro acc h; rw [List.foldl_cons]; exact ih _ (Nat.or_lt_two_pow h (Nat.mod_lt _ (Nat.two_pow_pos _)))
  exact fun l => this l (w0, 0) hw
theorem putW_eq {n : Nat} {l : List Pc} (hL : Lay n l) (hn : n ≤ 64) {w f : Nat} (hw : w < 2 ^ 64) : (putW (w &&& (2 ^ 64 - 1 - orP (places l))) f l).1 = putF (places l) w f := by
  obtain ⟨_, _, a3⟩ := hL.at64 hn
  have hm : orP (places l) < 2 ^ 64 := orP_lt a3
  have key : ∀ (r pre : List Pc), pre ++ r = l → Put1 pre (orP (places l)) w f (putW (w &&& (2 ^ 64 - 1 - orP (places l))) f pre).1 → Put1 l (orP (places l)) w f (putW (w &&& (2 ^ 64 - 1 - orP (places l))) f l).1 := by
    intro r
    induction r with
    | nil => intro pre h hp; rw [List.append_nil] at h; rw [← h] at hp ⊢; rw [h] at hp ⊢; exact hp
    | cons p r ih =>
      intro pre h hp
      refine ih (pre ++ [p]) (by simpa using h) ?_
      rw [putW_snoc]
      rw [← h] at hp hL ⊢
      exact put_step hL hn hp
  exact put_end hL (key l [] (by simp) (put_start' hw hm))
theorem put_asg (cx : Ctx) (lo : Nat) (H : Heap) (hlo : lo ≤ H.next) (a b : Int) (c : AV) (x0 x1 x2 x3 x4 x5 x6 x7 x8 x9 x10 x11 x12 x13 x14 x15 x16 x17 x18 x19 x20 x21 x22 x23 x24 x25 x26 x27 x28 x29 x30 x31 x32 x33 x34 x35 x36 x37 x38 x41 x42 x43 x44 x45 x46 x47 x48 x49 x50 x51 x52 x53 : AV) :
    om Try.prog cx lo (asgOf (loopAt Try.f22 0)) ⟨[x0, x1, x2, x3, x4, x5, x6, x7, x8, x9, x10, x11, x12, x13, x14, x15, x16, x17, x18, x19, x20, x21, x22, x23, x24, x25, x26, x27, x28, x29, x30, x31, x32, x33, x34, x35, x36, x37, x38, .agg [.int .i64 a, .int .i64 b], c, x41, x42, x43, x44, x45, x46, x47, x48, x49, x50, x51, x52, x53], [], H⟩ = some (.normal, ⟨[x0, x1, x2, x3, x4, x5, x6, x7, x8, x9, x10, x11, .ptr H.next 0, c, x14, x15, x16, x17, x18, x19, x20, x21, x22, x23, x24, x25, x26, x27, x28, x29, x30, x31, x32, x33, x34, x35, x36, x37, x38, .agg [.int .i64 a, .int .i64 b], c, x41, x42, x43, x44, x45, x46, x47, x48, x49, x50, x51, x52, x53], [], (H.push (.cells 49 [.int .i64 0, .int .i64 0])).set H.next (.cells 49 [.int .i64 a, .int .i64 b])⟩) := by
  simp -implicitDefEqProofs +decide only [asgOf, loopAt, loopIn, firstC, Try.f22, Option.getD, if_true, if_false]
  simp -implicitDefEqProofs only [ox, ou, ko, ky, kn, kd, oy_seq, oy_ret, oy_exit, oy_skip, oy_cond, oy_block, oy_region, oy_draw, dr_eq, dre_some, stl_some, st_nil, st_op, ot, ov, os_same, sy_nil, sy_op, nxt_normal, nxt_ret, nxt_exit, blk_exit, blk_normal, blk_ret, reg_some, cnd_true, cnd_false, opr_some, grd_true, grd_false, fin_ret, fin_normal, finv_some, Region.wanted, opA, callV, aop, evalL, evalO, putE, binA, bi_add, bi_sub, bi_mul, bi_eql, bi_neq, bi_lss, bi_leq, bi_gtr, bi_geq, unA, ofVal, ofLeaf, resultsA, tupA, AV.rfL, AV.rf, yielded_yv, yv_bool, yv_undef, yv_none, og_n, List.replicate, Option.bind, heapFree, onlyReads, List.set, List.getD, List.getElem?_cons_succ, List.getElem?_cons_zero, Option.getD, Option.map, decide_true, decide_false, if_true, if_false, Bool.false_eq_true, Bool.not_true, Bool.not_false, beq_self_eq_true, Bool.true_and, Bool.and_true, Bool.and_self, Bool.false_and, Bool.and_false, Bool.true_or, Bool.or_true, Bool.false_or, Bool.or_false, Bool.or_self, List.length_cons, List.length_nil, List.cons_append, List.nil_append, ite_self, List.getElem?_toArray, Option.bind_some, Option.bind_none, og_tt, og_ff, og_tf, og_ft, Int.reduceBNe, Int.reduceBEq, Int.reduceLT, Int.reduceLE, sz49, ze49, AV.cells, leafs, leafA, List.all_cons, List.all_nil, new49 H lo hlo, Option.map]
set_option maxHeartbeats 1000000 in
theorem put_bod (cx : Ctx) (lo : Nat) (H : Heap) (b0 bc b9 f w : Nat) (at' : Nat) (p : Pc) (h1 : 1 ≤ p.2) (h2 : p.1 + p.2 ≤ 64) (hat : at' ≤ 64) (hw : w < 2 ^ 64) (hf : f < 2 ^ 64)
    (g0 : H.get b0 = some (.cells 22 [.int .u64 (w : Int)])) (gc : H.get bc = some (.cells 22 [.int .u64 (f : Int)])) (g9 : H.get b9 = some (.cells 49 [.int .i64 p.1, .int .i64 p.2])) (hlo : lo ≤ b0) (x0 x1 x2 x3 x4 x6 x8 x9 x10 x11 x14 x15 x16 x17 x18 x19 x20 x21 x22 x23 x24 x25 x26 x27 x28 x29 x30 x31 x32 x33 x34 x35 x36 x37 x38 x39 x40 x41 x42 x43 x44 x45 x46 x47 x48 x49 x50 x51 x52 x53 : AV) :
    ∃ env', om Try.prog cx lo (bodOf (loopAt Try.f22 0)) ⟨[x0, x1, x2, x3, x4, .ptr b0 0, x6, .ptr bc 0, x8, x9, x10, x11, .ptr b9 0, .int .i64 at', x14, x15, x16, x17, x18, x19, x20, x21, x22, x23, x24, x25, x26, x27, x28, x29, x30, x31, x32, x33, x34, x35, x36, x37, x38, x39, x40, x41, x42, x43, x44, x45, x46, x47, x48, x49, x50, x51, x52, x53], [], H⟩ = some (.normal, ⟨env', [], H.set b0 (.cells 22 [.int .u64 (w ||| ((f / 2 ^ at' &&& (2 ^ p.2 - 1)) * 2 ^ p.1 % 2 ^ 64) : Nat)])⟩) := by
  have d10 := dr22_10
  simp -implicitDefEqProofs +decide only [regAt, regIn, Option.getD, Try.f22, if_true, if_false] at d10
  simp -implicitDefEqProofs +decide only [bodOf, loopAt, loopIn, firstC, Try.f22, Option.getD, if_true, if_false]
  have hmk := bmask_run p.2 h1 (by omega)
  have hml : 2 ^ p.2 - 1 < 2 ^ 64 := by have := two_pow_le (show p.2 ≤ 64 by omega); omega
  generalize 2 ^ p.2 - 1 = mk at hmk hml ⊢
  have hs := u64_shr (a := f) (y := at') hat
  have hx : f / 2 ^ at' < 2 ^ 64 := Nat.lt_of_le_of_lt (Nat.div_le_self _ _) hf
  generalize f / 2 ^ at' = x at hs hx ⊢
  have ha := Go.Ab.u64_and hx hml
  generalize x &&& mk = y at ha ⊢
  have hl := u64_shl (a := y) (y := p.1) (by omega)
  have hz : y * 2 ^ p.1 % 2 ^ 64 < 2 ^ 64 := Nat.mod_lt _ (Nat.two_pow_pos _)
  generalize y * 2 ^ p.1 % 2 ^ 64 = z at hl hz ⊢
  have ho := Go.Ab.u64_or hw hz
  generalize w ||| z = r at ho ⊢
  simp -implicitDefEqProofs only [ox, ou, ko, ky, kn, kd, oy_seq, oy_ret, oy_exit, oy_skip, oy_cond, oy_block, oy_region, oy_draw, dr_eq, dre_some, stl_some, st_nil, st_op, ot, ov, os_same, sy_nil, sy_op, nxt_normal, nxt_ret, nxt_exit, blk_exit, blk_normal, blk_ret, reg_some, cnd_true, cnd_false, opr_some, grd_true, grd_false, fin_ret, fin_normal, finv_some, Region.wanted, opA, callV, aop, evalL, evalO, putE, binA, bi_add, bi_sub, bi_mul, bi_eql, bi_neq, bi_lss, bi_leq, bi_gtr, bi_geq, unA, ofVal, ofLeaf, resultsA, tupA, AV.rfL, AV.rf, yielded_yv, yv_bool, yv_undef, yv_none, og_n, List.replicate, Option.bind, heapFree, onlyReads, List.set, List.getD, List.getElem?_cons_succ, List.getElem?_cons_zero, Option.getD, Option.map, decide_true, decide_false, if_true, if_false, Bool.false_eq_true, Bool.not_true, Bool.not_false, beq_self_eq_true, Bool.true_and, Bool.and_true, Bool.and_self, Bool.false_and, Bool.and_false, Bool.true_or, Bool.or_true, Bool.false_or, Bool.or_false, Bool.or_self, List.length_cons, List.length_nil, List.cons_append, List.nil_append, ite_self, List.getElem?_toArray, Option.bind_some, Option.bind_none, og_tt, og_ff, og_tf, og_ft, Int.reduceBNe, Int.reduceBEq, Int.reduceLT, Int.reduceLE, d10, ld22, ld3, fa0, fa1, g0, gc, g9, cellO_some, hmk, hs, ha, hl, ho, List.take, List.drop, st22 g0 hlo, Nat.zero_add, Option.map]
  exact ⟨_, rfl⟩
theorem rng22 : loopAt Try.f22 0 = .rangeFunc (.tmp 38) #[39, 40] (asgOf (loopAt Try.f22 0)) (bodOf (loopAt Try.f22 0)) := by kernel_rfl
theorem maskT_tup (size : Int) (l : List Pi) : ∃ m e : Int, maskT size l = .tup [.int .u64 m, .int .i64 e] ∧ e = chkE size l := by
  unfold maskT
  by_cases h : chkE size l = 0
  · rw [if_pos h]; exact ⟨_, _, rfl, h.symm⟩
  · rw [if_neg h]; exact ⟨_, _, rfl, rfl⟩
set_option maxHeartbeats 4000000 in
theorem put_run (size : Int) (w : Nat) (hw : w < 2 ^ 64) (l : List Pi) (v : AV) (f : Nat) (hf : f < 2 ^ 64) (lo : Nat) (H : Heap) (hR : Rd H v l) (hlo : lo ≤ H.next) (hl : l.length ≤ 1000) :
    ∃ H', callA Try.prog (om Try.prog) lo 22 [.int .i64 size, .int .u64 w, v, .int .u64 f] H = some (putT size w l f, H') ∧ Ext H H' := by
  have d4 := dr22_4
  simp -implicitDefEqProofs +decide only [regAt, regIn, Option.getD, Try.f22, if_true, if_false] at d4
  rw [call_eq Try.func22 rfl rfl]
  have hlo' := lo_le (own := AV.rfL [.int .i64 size, .int .u64 w, v, .int .u64 f]) hlo
  generalize (if AV.rfL [.int .i64 size, .int .u64 w, v, .int .u64 f] = true then H.next else lo) = lo' at hlo' ⊢
  generalize AV.rfL [.int .i64 size, .int .u64 w, v, .int .u64 f] = own
  obtain ⟨H1, hH1⟩ : ∃ H1, H1 = (H.push (.cells 22 [.int .u64 (w : Int)])).push (.cells 22 [.int .u64 (f : Int)]) := ⟨_, rfl⟩
  have xp : Ext H H1 := by rw [hH1]; exact ((Ext.refl H).push _).push _
  have hn1 : H1.next = H.next + 2 := by rw [hH1]; simp
  have gw1 : H1.get H.next = some (.cells 22 [.int .u64 (w : Int)]) := by rw [hH1, Heap.get_push]; simp [Heap.get_push]
  have gf1 : H1.get (H.next + 1) = some (.cells 22 [.int .u64 (f : Int)]) := by rw [hH1, Heap.get_push]; simp
  obtain ⟨H2, hm, x2⟩ := mask_run size l v lo' H1 (hR.ext xp) (by omega) hl
  have gw : H2.get H.next = some (.cells 22 [.int .u64 (w : Int)]) := by rw [x2.2 _ (by omega)]; exact gw1
  have gf : H2.get (H.next + 1) = some (.cells 22 [.int .u64 (f : Int)]) := by rw [x2.2 _ (by omega)]; exact gf1
  have hn2 : H.next + 1 < H2.next := by have := x2.1; omega
  have hnx : (H.push (.cells 22 [.int .u64 (w : Int)])).next = H.next + 1 := rfl
  unfold putT
  by_cases h0 : chkE size l = 0
  · rw [if_pos h0]
    rw [maskT, if_pos h0] at hm
    obtain ⟨n, lN, rfl, h1, h2, rfl, hL, h4⟩ := chk_ok h0
    rw [natl_map] at hm ⊢
    obtain ⟨a1, a2, a3⟩ := hL.at64 h2
    have hft := fun lo H => fits_run w hw n lo H
    have hmlt : orP (places lN) < 2 ^ 64 := orP_lt a3
    have hon := fun lo H => ones_run (orP (places lN)) hmlt lo H
    have hcn : cnt 64 (orP (places lN)) = width lN := cnt_orP (places lN) hL.2 a3
    rw [hcn] at hon
    have hff := fun lo H => fits_run f hf (width lN) lo H
    rw [Int.toNat_natCast]
    by_cases hwn : w < 2 ^ n
    · simp only [hwn, decide_true] at hft
      by_cases hfn : f < 2 ^ width lN
      · rw [if_pos ⟨hwn, hfn⟩]
        simp only [hfn, decide_true] at hff
        have hand := Go.Ab.u64_andNot hw hmlt
        have hw0 : w &&& (2 ^ 64 - 1 - orP (places lN)) < 2 ^ 64 := Nat.lt_of_le_of_lt Nat.and_le_left hw
        have hpe := putW_eq hL h2 hw (f := f)
        generalize hw0e : w &&& (2 ^ 64 - 1 - orP (places lN)) = w0 at hand hw0 hpe
        have hs0 := st22 (n := (w0 : Int)) gw (show lo' ≤ H.next by omega)
        obtain ⟨H3, hH3⟩ : ∃ H3, H3 = H2.set H.next (.cells 22 [.int .u64 (w0 : Int)]) := ⟨_, rfl⟩
        rw [← hH3] at hs0
        have xw : Ext H H3 := by rw [hH3]; exact (xp.trans x2).set (Nat.le_refl _) _
        have hn3 : H3.next = H2.next := by rw [hH3]; rfl
        have gw3 : H3.get H.next = some (.cells 22 [.int .u64 (w0 : Int)]) := by rw [hH3, Heap.get_set, if_pos rfl]
        have gf3 : H3.get (H.next + 1) = some (.cells 22 [.int .u64 (f : Int)]) := by rw [hH3, Heap.get_set, if_neg (by omega)]; exact gf
        have hsh := shifted_run (lN.map toPi) v lo' H3 (hR.ext xw)
        have x3 : Ext H3 (H3.push (.cells 39 [v])) := (Ext.refl _).push _
        have R := fun (env : List AV) => @yrange H (H3.push (.cells 39 [v])) (fun pre => (putW w0 f pre).1) lo' H.next (H.next + 1) H3.next n (.cells 22 [.int .u64 (f : Int)]) 22 env (.tmp 38) #[39, 40] (asgOf (loopAt Try.f22 0)) (bodOf (loopAt Try.f22 0)) lN v hL h2 h4 hR
        have hrg := rng22
        generalize hA : asgOf (loopAt Try.f22 0) = A at R hrg
        generalize hB : bodOf (loopAt Try.f22 0) = Bd at R hrg
        simp -implicitDefEqProofs +decide only [loopAt, loopIn, firstC, Try.f22, Option.getD, if_true, if_false] at hrg
        simp -implicitDefEqProofs only [Try.f22]
        simp -implicitDefEqProofs only [ox, ou, ko, ky, kn, kd, oy_seq, oy_ret, oy_exit, oy_skip, oy_cond, oy_block, oy_region, oy_draw, dr_eq, dre_some, stl_some, st_nil, st_op, ot, ov, os_same, sy_nil, sy_op, nxt_normal, nxt_ret, nxt_exit, blk_exit, blk_normal, blk_ret, reg_some, cnd_true, cnd_false, opr_some, grd_true, grd_false, fin_ret, fin_normal, finv_some, Region.wanted, opA, callV, aop, evalL, evalO, putE, binA, bi_add, bi_sub, bi_mul, bi_eql, bi_neq, bi_lss, bi_leq, bi_gtr, bi_geq, unA, ofVal, ofLeaf, resultsA, tupA, AV.rfL, AV.rf, yielded_yv, yv_bool, yv_undef, yv_none, og_n, List.replicate, Option.bind, heapFree, onlyReads, List.set, List.getD, List.getElem?_cons_succ, List.getElem?_cons_zero, Option.getD, Option.map, decide_true, decide_false, if_true, if_false, Bool.false_eq_true, Bool.not_true, Bool.not_false, beq_self_eq_true, Bool.true_and, Bool.and_true, Bool.and_self, Bool.false_and, Bool.and_false, Bool.true_or, Bool.or_true, Bool.false_or, Bool.or_false, Bool.or_self, List.length_cons, List.length_nil, List.cons_append, List.nil_append, ite_self, List.getElem?_toArray, Option.bind_some, Option.bind_none, og_tt, og_ff, og_tf, og_ft, Int.reduceBNe, Int.reduceBEq, Int.reduceLT, Int.reduceLE, sz22, AV.cells, leafs, leafA, List.all_cons, List.all_nil, ← hH1, hm, d4, ld22, hnx, gw, gf, cellO_some, hft, hon, hff, hand, hs0, hsh, List.take, List.drop, List.getElem?_cons_succ, List.getElem?_cons_zero, Option.map]
        rw [hrg]
        generalize hr : om Try.prog _ _ (Code.rangeFunc _ _ _ _) _ = r
        have P : ∃ y0 y1 y2 y3 y4 y6 y7 y8 y9 y10 y11 y12 y13 y14 y15 y16 y17 y18 y19 y20 y21 y22 y23 y24 y25 y26 y27 y28 y29 y30 y31 y32 y33 y34 y35 y36 y37 y38 y39 y40 y41 y42 y43 y44 y45 y46 y47 y48 y49 y50 y51 y52 y53, YPost H (H3.next + 1) H.next (putW w0 f lN).1 [y0, y1, y2, y3, y4, .ptr H.next 0, y6, y7, y8, y9, y10, y11, y12, y13, y14, y15, y16, y17, y18, y19, y20, y21, y22, y23, y24, y25, y26, y27, y28, y29, y30, y31, y32, y33, y34, y35, y36, y37, y38, y39, y40, y41, y42, y43, y44, y45, y46, y47, y48, y49, y50, y51, y52, y53] r := by
          rw [← hr]
          exact ⟨_, _, _, _, _, _, _, _, _, _, _, _, _, _, _, _, _, _, _, _, _, _, _, _, _, _, _, _, _, _, _, _, _, _, _, _, _, _, _, _, _, _, _, _, _, _, _, _, _, _, _, _, _, R _ (by rfl) hlo' (xw.trans x3) (by omega) (by simp; omega) (by simp; omega) (by simp) (by omega) (by rw [Heap.get_push, if_pos rfl]) (by rw [x3.2 _ (by omega)]; exact gw3) (by rw [x3.2 _ (by omega)]; exact gf3) (by
            intro a b
            refine ⟨_, rfl, ?_⟩
            intro pre p r H' hp hlo2 ea eb
            subst ea eb
            have hmem : p ∈ lN := by rw [← hp]; simp
            have hp1 := (hL.1 p hmem).1
            have hp2 := a1 p hmem
            have hwp := lay_width hL h2 pre (p :: r) hp
            rw [← hA, ← hB]
            refine ⟨_, put_asg _ lo' H' hlo2 p.1 p.2 _ _ _ _ _ _ _ _ _ _ _ _ _ _ _ _ _ _ _ _ _ _ _ _ _ _ _ _ _ _ _ _ _ _ _ _ _ _ _ _ _ _ _ _ _ _ _ _ _ _ _ _ _, fun Y y1 y2 y3 => ?_⟩
            rw [putW_snoc]
            exact put_bod _ lo' Y H.next (H.next + 1) H'.next f (putW w0 f pre).1 (width pre) p hp1 hp2 hwp (putW_lt f hw0 pre) hf y1 y2 y3 (by omega) _ _ _ _ _ _ _ _ _ _ _ _ _ _ _ _ _ _ _ _ _ _ _ _ _ _ _ _ _ _ _ _ _ _ _ _ _ _ _ _ _ _ _ _ _ _ _ _ _ _)⟩
        obtain ⟨y0, y1, y2, y3, y4, y6, y7, y8, y9, y10, y11, y12, y13, y14, y15, y16, y17, y18, y19, y20, y21, y22, y23, y24, y25, y26, y27, y28, y29, y30, y31, y32, y33, y34, y35, y36, y37, y38, y39, y40, y41, y42, y43, y44, y45, y46, y47, y48, y49, y50, y51, y52, y53, H5, rfl, p2, p3, p4⟩ := P
        clear hr R hrg
        rw [hpe] at p3
        obtain ⟨z, hz⟩ : ∃ z, z = putF (places lN) w f := ⟨_, rfl⟩
        rw [← hz] at p3 ⊢
        simp -implicitDefEqProofs only [ox, ou, ko, ky, kn, kd, oy_seq, oy_ret, oy_exit, oy_skip, oy_cond, oy_block, oy_region, oy_draw, dr_eq, dre_some, stl_some, st_nil, st_op, ot, ov, os_same, sy_nil, sy_op, nxt_normal, nxt_ret, nxt_exit, blk_exit, blk_normal, blk_ret, reg_some, cnd_true, cnd_false, opr_some, grd_true, grd_false, fin_ret, fin_normal, finv_some, Region.wanted, opA, callV, aop, evalL, evalO, putE, binA, bi_add, bi_sub, bi_mul, bi_eql, bi_neq, bi_lss, bi_leq, bi_gtr, bi_geq, unA, ofVal, ofLeaf, resultsA, tupA, AV.rfL, AV.rf, yielded_yv, yv_bool, yv_undef, yv_none, og_n, List.replicate, Option.bind, heapFree, onlyReads, List.set, List.getD, List.getElem?_cons_succ, List.getElem?_cons_zero, Option.getD, Option.map, decide_true, decide_false, if_true, if_false, Bool.false_eq_true, Bool.not_true, Bool.not_false, beq_self_eq_true, Bool.true_and, Bool.and_true, Bool.and_self, Bool.false_and, Bool.and_false, Bool.true_or, Bool.or_true, Bool.false_or, Bool.or_false, Bool.or_self, List.length_cons, List.length_nil, List.cons_append, List.nil_append, ite_self, List.getElem?_toArray, Option.bind_some, Option.bind_none, og_tt, og_ff, og_tf, og_ft, Int.reduceBNe, Int.reduceBEq, Int.reduceLT, Int.reduceLE, ld22, p3, cellO_some, fin_mark p4, Option.map]
        exact if_out (p2.kill (by have := xw.1; omega))
      · rw [if_neg (fun h => hfn h.2)]
        simp only [hfn, decide_false] at hff
        simp -implicitDefEqProofs only [Try.f22]
        simp -implicitDefEqProofs only [ox, ou, ko, ky, kn, kd, oy_seq, oy_ret, oy_exit, oy_skip, oy_cond, oy_block, oy_region, oy_draw, dr_eq, dre_some, stl_some, st_nil, st_op, ot, ov, os_same, sy_nil, sy_op, nxt_normal, nxt_ret, nxt_exit, blk_exit, blk_normal, blk_ret, reg_some, cnd_true, cnd_false, opr_some, grd_true, grd_false, fin_ret, fin_normal, finv_some, Region.wanted, opA, callV, aop, evalL, evalO, putE, binA, bi_add, bi_sub, bi_mul, bi_eql, bi_neq, bi_lss, bi_leq, bi_gtr, bi_geq, unA, ofVal, ofLeaf, resultsA, tupA, AV.rfL, AV.rf, yielded_yv, yv_bool, yv_undef, yv_none, og_n, List.replicate, Option.bind, heapFree, onlyReads, List.set, List.getD, List.getElem?_cons_succ, List.getElem?_cons_zero, Option.getD, Option.map, decide_true, decide_false, if_true, if_false, Bool.false_eq_true, Bool.not_true, Bool.not_false, beq_self_eq_true, Bool.true_and, Bool.and_true, Bool.and_self, Bool.false_and, Bool.and_false, Bool.true_or, Bool.or_true, Bool.false_or, Bool.or_false, Bool.or_self, List.length_cons, List.length_nil, List.cons_append, List.nil_append, ite_self, List.getElem?_toArray, Option.bind_some, Option.bind_none, og_tt, og_ff, og_tf, og_ft, Int.reduceBNe, Int.reduceBEq, Int.reduceLT, Int.reduceLE, sz22, AV.cells, leafs, leafA, List.all_cons, List.all_nil, ← hH1, hm, d4, ld22, hnx, gw, gf, cellO_some, hft, hon, hff, List.take, List.drop, List.getElem?_cons_succ, List.getElem?_cons_zero, Option.map]
        exact if_out (xp.trans x2)
    · rw [if_neg (fun h => hwn h.1)]
      simp only [hwn, decide_false] at hft
      simp -implicitDefEqProofs only [Try.f22]
      simp -implicitDefEqProofs only [ox, ou, ko, ky, kn, kd, oy_seq, oy_ret, oy_exit, oy_skip, oy_cond, oy_block, oy_region, oy_draw, dr_eq, dre_some, stl_some, st_nil, st_op, ot, ov, os_same, sy_nil, sy_op, nxt_normal, nxt_ret, nxt_exit, blk_exit, blk_normal, blk_ret, reg_some, cnd_true, cnd_false, opr_some, grd_true, grd_false, fin_ret, fin_normal, finv_some, Region.wanted, opA, callV, aop, evalL, evalO, putE, binA, bi_add, bi_sub, bi_mul, bi_eql, bi_neq, bi_lss, bi_leq, bi_gtr, bi_geq, unA, ofVal, ofLeaf, resultsA, tupA, AV.rfL, AV.rf, yielded_yv, yv_bool, yv_undef, yv_none, og_n, List.replicate, Option.bind, heapFree, onlyReads, List.set, List.getD, List.getElem?_cons_succ, List.getElem?_cons_zero, Option.getD, Option.map, decide_true, decide_false, if_true, if_false, Bool.false_eq_true, Bool.not_true, Bool.not_false, beq_self_eq_true, Bool.true_and, Bool.and_true, Bool.and_self, Bool.false_and, Bool.and_false, Bool.true_or, Bool.or_true, Bool.false_or, Bool.or_false, Bool.or_self, List.length_cons, List.length_nil, List.cons_append, List.nil_append, ite_self, List.getElem?_toArray, Option.bind_some, Option.bind_none, og_tt, og_ff, og_tf, og_ft, Int.reduceBNe, Int.reduceBEq, Int.reduceLT, Int.reduceLE, sz22, AV.cells, leafs, leafA, List.all_cons, List.all_nil, ← hH1, hm, d4, ld22, hnx, gw, gf, cellO_some, hft, List.take, List.drop, List.getElem?_cons_succ, List.getElem?_cons_zero, Option.map]
      exact if_out (xp.trans x2)
  · rw [if_neg h0]
    rw [maskT, if_neg h0] at hm
    have hne : (chkE size l != 0) = true := by simp [h0]
    simp -implicitDefEqProofs only [Try.f22]
    simp -implicitDefEqProofs only [ox, ou, ko, ky, kn, kd, oy_seq, oy_ret, oy_exit, oy_skip, oy_cond, oy_block, oy_region, oy_draw, dr_eq, dre_some, stl_some, st_nil, st_op, ot, ov, os_same, sy_nil, sy_op, nxt_normal, nxt_ret, nxt_exit, blk_exit, blk_normal, blk_ret, reg_some, cnd_true, cnd_false, opr_some, grd_true, grd_false, fin_ret, fin_normal, finv_some, Region.wanted, opA, callV, aop, evalL, evalO, putE, binA, bi_add, bi_sub, bi_mul, bi_eql, bi_neq, bi_lss, bi_leq, bi_gtr, bi_geq, unA, ofVal, ofLeaf, resultsA, tupA, AV.rfL, AV.rf, yielded_yv, yv_bool, yv_undef, yv_none, og_n, List.replicate, Option.bind, heapFree, onlyReads, List.set, List.getD, List.getElem?_cons_succ, List.getElem?_cons_zero, Option.getD, Option.map, decide_true, decide_false, if_true, if_false, Bool.false_eq_true, Bool.not_true, Bool.not_false, beq_self_eq_true, Bool.true_and, Bool.and_true, Bool.and_self, Bool.false_and, Bool.and_false, Bool.true_or, Bool.or_true, Bool.false_or, Bool.or_false, Bool.or_self, List.length_cons, List.length_nil, List.cons_append, List.nil_append, ite_self, List.getElem?_toArray, Option.bind_some, Option.bind_none, og_tt, og_ff, og_tf, og_ft, Int.reduceBNe, Int.reduceBEq, Int.reduceLT, Int.reduceLE, sz22, AV.cells, leafs, leafA, List.all_cons, List.all_nil, ← hH1, hm, hne, hnx, List.getElem?_cons_succ, List.getElem?_cons_zero, Option.map]
    exact if_out (xp.trans x2)
end Go.Proofs.Ytlbkcdfllglddaa.fmt
/-! Rows whose arguments are slices of pieces: how they come in, and that they stay. Conditions: in each statement. -/
namespace Go.Proofs.Ytlbkcdfllglddaa.fmt
open Go Go.Ab Go.RowKit Go.ChangeShapes Go.WideShapes Go.ChangeAt
set_option maxRecDepth 100000
set_option linter.unusedVariables false
/-- what came in stays -/
theorem stay_of {H : Type} {enc : TypeId × Value → H} {t : TypeId} {W W' : World} {v : Value} {d : DataW H} {ps : List MemPlace} (hl : laidOutB Try.prog = true) (hr : Try.prog.readableRec t = true) (hrow : t < Try.prog.types.size)
    (h : DataW.Trod enc Try.prog W 0 (fun _ => true) true t v d ps) (bel : Below W.heap.size W W') : DataW.Trod enc Try.prog W' 0 (fun b => decide (b < W.heap.size)) true t v d ps := by
  have hlt : ∀ p ∈ ps, p.block < W.heap.size := by
    obtain ⟨n, hn⟩ := h
    exact DataW.trod_lt n t _ _ hn
  exact Go.WideElems.Trod_stays hl hr hrow h (fun p hp => bel.same (hlt p hp)) (fun p hp => by simpa using hlt p hp)
/-- pieces that came in, as the interpreter takes them -/
def RdI (v : AV) (l : List Pi) : Prop := ∃ a cap, v = .rsl a cap 2 (l.map fun p => .agg (pcells p)) ∧ (l ≠ [] → a.isSome = true)
def PiOk (p : Pi) : Prop := (-9223372036854775808 ≤ p.1 ∧ p.1 ≤ 9223372036854775807) ∧ -9223372036854775808 ≤ p.2 ∧ p.2 ≤ 9223372036854775807
theorem cell_lt {w : World} {a : Addr} {v : Value} (h : w.cell? a = some v) : a.block < w.heap.size := by
  by_cases e : a.block < w.heap.size
  · exact e
  · have : w.heap[a.block]? = none := Array.getElem?_eq_none (by omega)
    unfold World.cell? at h
    simp [this] at h
theorem fields49 : ∃ f0 f1 : Field, Try.prog.underlying 49 = some (.struct #[f0, f1]) ∧ f0.type = 3 ∧ f1.type = 3 ∧ f0.offset = 0 ∧ f1.offset = 1 := by
  refine ⟨_, _, Try.underlying49, rfl, rfl, rfl, rfl⟩
theorem open_pcs {H : Type} {enc : TypeId × Value → H} {W : World} {r : Reach} {b0 : Nat} {v : Value} {d : DataW H} {ps : List MemPlace} (hval : Value.okWide Try.prog W r b0 39 v) (h : DataW.Trod enc Try.prog W 0 (fun _ => true) true 39 v d ps) :
    ∃ (av : AV) (l : List Pi), (∀ ι, av.conc ι = v) ∧ av.OK W W.heap.size 0 ∧ RdI av l ∧ (∀ p ∈ l, PiOk p) ∧ l.length ≤ maxLen := by
  obtain ⟨a0, len0, cap0, rfl⟩ := okWide_slice Try.underlying39 hval
  obtain ⟨fuel, hf⟩ := h
  rcases DataW.trod_slice Try.underlying39 hf with ⟨h1, h2⟩ | ⟨a, len, cap, elems, rest, n, _, hcs, hx, hb, hl, hm, hlen, hel, hsp, _⟩
  · simp [Value.cells] at h1
    obtain ⟨rfl, rfl, rfl⟩ := h1
    exact ⟨.rsl none 0 2 [], [], fun ι => rfl, ⟨rfl, rfl⟩, ⟨none, 0, rfl, fun h => absurd rfl h⟩, by simp, by simp⟩
  · simp [Value.cells] at hcs
    obtain ⟨rfl, rfl, rfl⟩ := hcs
    obtain ⟨f0, f1, u49, t0, t1, o0, o1⟩ := fields49
    -- each element
    have each : ∀ i, i < len0 → ∃ p : Pi, PiOk p ∧ a.block < W.heap.size ∧ W.cell? (a.add (i * 2)) = some (.int .i64 p.1) ∧ W.cell? (a.add (i * 2 + 1)) = some (.int .i64 p.2) := by
      intro i hi
      obtain ⟨y, hy⟩ : ∃ y, elems[i]? = some y := ⟨elems[i]'(by omega), List.getElem?_eq_getElem (by omega)⟩
      have he := hel i hi
      rw [hy, ce49, Option.bind_eq_some_iff] at he
      obtain ⟨cs, hc1, hc2⟩ := he
      obtain ⟨c1, c2, c3⟩ := World.cells?_some hc1
      obtain ⟨xs, m, _, _, _, hxl, hfs⟩ := DataW.trod_struct u49 hc2
      have e0 := hfs 0 f0 rfl
      have e1 := hfs 1 f1 rfl
      rw [t0, o0, ce3] at e0
      rw [t1, o1, ce3] at e1
      obtain ⟨x0, hx0⟩ : ∃ x, xs[0]? = some x := ⟨xs[0]'(by rw [hxl]; show 0 < 2; decide), List.getElem?_eq_getElem _⟩
      obtain ⟨x1, hx1⟩ : ∃ x, xs[1]? = some x := ⟨xs[1]'(by rw [hxl]; show 1 < 2; decide), List.getElem?_eq_getElem _⟩
      rw [hx0] at e0
      rw [hx1] at e1
      obtain ⟨n0, g0, _, w0⟩ := DataW.trod_int Try.underlying3 e0
      obtain ⟨n1, g1, _, w1⟩ := DataW.trod_int Try.underlying3 e1
      have hcs : cs = [.int .i64 n0, .int .i64 n1] := by
        match cs, c2 with
        | [u, v], _ => simp at g0 g1; rw [g0, g1]
      subst hcs
      have d0 := c3 0 (by decide)
      have d1 := c3 1 (by decide)
      simp only [List.getElem?_cons_zero, List.getElem?_cons_succ, add_add'] at d0 d1
      refine ⟨(n0, n1), ⟨wf_i64 w0, wf_i64 w1⟩, ?_, d0, d1⟩
      have := cell_lt d0
      rw [add_block] at this; exact this
    obtain ⟨l, hll, hle⟩ : ∃ l : List Pi, l.length = len0 ∧ ∀ i p, l[i]? = some p → PiOk p ∧ a.block < W.heap.size ∧ W.cell? (a.add (i * 2)) = some (.int .i64 p.1) ∧ W.cell? (a.add (i * 2 + 1)) = some (.int .i64 p.2) := by
      clear hel hlen hl hf hx hval hsp
      induction len0 with
      | zero => exact ⟨[], rfl, by simp⟩
      | succ k ih =>
        obtain ⟨l, h1, h2⟩ := ih fun i hi => each i (by omega)
        obtain ⟨p, hp⟩ := each k (by omega)
        refine ⟨l ++ [p], by simp [h1], fun i q hq => ?_⟩
        rw [List.getElem?_append] at hq
        split at hq
        · exact h2 i q hq
        · rename_i hge
          have : i - l.length = 0 := by
            by_cases e : i - l.length = 0
            · exact e
            · rw [List.getElem?_eq_none (by simp; omega)] at hq; cases hq
          rw [this] at hq
          simp at hq
          subst hq
          obtain rfl : i = k := by omega
          exact hp
    refine ⟨.rsl (some a) cap0 2 (l.map fun p => .agg (pcells p)), l, fun ι => by simp [AV.conc, hll], ?_, ⟨some a, cap0, rfl, fun _ => rfl⟩, fun p hp => ?_, by omega⟩
    · simp only [AV.OK]
      refine ⟨by simp; omega, fun ι i e he => ?_, ?_⟩
      · rw [List.getElem?_map] at he
        cases hp : l[i]? with
        | none => rw [hp] at he; simp at he
        | some p =>
          rw [hp] at he
          simp at he
          subst he
          obtain ⟨_, q1, q2, q3⟩ := hle i p hp
          refine ⟨q1, rfl, fun j c hc => ?_⟩
          rw [add_add']
          simp only [AV.cells, pcells] at hc
          match j, hc with
          | 0, hc => simp at hc; subst hc; exact q2
          | 1, hc => simp at hc; subst hc; exact q3
          | j + 2, hc => simp at hc
      · rw [OKL_iff]
        intro v hv
        obtain ⟨p, hp, rfl⟩ := List.mem_map.1 hv
        simp [AV.OK, AV.OKL, pcells]
    · obtain ⟨i, hi⟩ := List.getElem?_of_mem hp
      exact (hle i p hi).1
end Go.Proofs.Ytlbkcdfllglddaa.fmt
