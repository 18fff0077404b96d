/- FormatSplits, the run: its loop, its appends and what follows. Conditions: in each statement. -/
import Derived.Test.YtlbkcdfllglddaaB3
/-! FormatSplits, the run: its loop, its appends. Conditions: in each statement. -/
namespace Go.Proofs.Ytlbkcdfllglddaa.fmt
open Go Go.Ab
set_option maxRecDepth 100000
set_option linter.unusedSimpArgs false
set_option linter.unusedVariables false
attribute [local simp] ox ou ko ky kn kd oy_seq oy_ret oy_exit oy_skip oy_cond oy_block oy_region oy_draw dr_eq dre_some stl_some st_nil st_op ot ov os_same sy_nil sy_op nxt_normal nxt_ret nxt_exit blk_exit blk_normal blk_ret reg_some cnd_true cnd_false opr_some grd_true grd_false fin_ret fin_normal finv_some Region.wanted opA callV aop evalL evalO putE binA bi_add bi_sub bi_mul bi_eql bi_neq bi_lss bi_leq bi_gtr bi_geq unA ofVal ofLeaf resultsA tupA AV.rfL AV.rf yielded_yv yv_bool yv_undef yv_none og_n List.replicate Option.bind heapFree onlyReads
/-- the slots of a run's end -/
def outE (r : Option (Ex × St)) (i : Nat) : AV := match r with | some (_, st) => st.env.getD i undefA | none => undefA
/-- a slice of pieces that has been made since, or none -/
def SO (H0 H : Heap) (s : AV) (l : List Pi) : Prop := ((∃ sz, s = .rsl none 0 sz []) ∧ l = []) ∨ (∃ b, H0.next ≤ b ∧ b < H.next ∧ s = .sl b 0 l.length 2 ∧ H.get b = some (.cells 49 (l.flatMap pcells)))
theorem SO.ext {H0 H H' : Heap} {s : AV} {l : List Pi} (h : SO H0 H s l) (x : Ext H H') : SO H0 H' s l := by
  rcases h with h | ⟨b, h1, h2, h3, h4⟩
  · exact .inl h
  · exact .inr ⟨b, h1, Nat.lt_of_lt_of_le h2 x.1, h3, by rw [x.2 b h2]; exact h4⟩
theorem SO.rd {H0 H : Heap} {s : AV} {l : List Pi} (h : SO H0 H s l) (hn : l ≠ []) : Rd H s l := by
  rcases h with ⟨_, rfl⟩ | ⟨b, _, h2, h3, h4⟩
  · exact absurd rfl hn
  · exact .inr ⟨b, h3, h2, h4⟩
theorem appP {H0 H : Heap} {s x : AV} {l0 l1 : List Pi} (h : SO H0 H s l0) (x0 : Ext H0 H) {lo : Nat} (hlo : lo ≤ H0.next) (h0 : l0.length ≤ 1000) (h1 : l1.length ≤ 1000)
    (e1 : elemsA H 2 x = some (l1.flatMap pcells)) (e2 : lenA H x = some l1.length) : ∃ s' H', appendA Try.prog lo H (some 39) (some 39) s x = some (s', H') ∧ Ext H0 H' ∧ SO H0 H' s' (l0 ++ l1) := by
  obtain ⟨i, hi, hs, hby⟩ := info49
  have hok : appendOk i (.agg [.int .i64 0, .int .i64 0]) (l1.flatMap pcells) l1.length = true := by
    simp only [appendOk, hs, flat_len, flat_leafs, AV.cells]; simp
  have xn := x0.1
  have hfit : ∀ k, k ≤ 1000 → appendFits i k l1.length = true := fun k hk => by simp only [appendFits, hby, Bool.and_eq_true, decide_eq_true_eq]; omega
  rcases h with ⟨⟨sz, rfl⟩, rfl⟩ | ⟨b, b1, b2, rfl, b4⟩
  · by_cases hn : l1.length = 0
    · rw [hn] at hok
      refine ⟨.rsl none 0 sz [], H, ?_, x0, .inl ⟨⟨sz, rfl⟩, by simpa using hn⟩⟩
      simp -implicitDefEqProofs only [appendA, Option.bind, Try.underlying39, srcOk, Bool.not_true, Bool.false_eq_true, if_false, hi, ze49, ce49, e1, e2, hok, if_true, appendTo, hn]
    · refine ⟨.sl H.next 0 l1.length 2, H.push (.cells 49 (l1.flatMap pcells)), ?_, x0.push _, .inr ⟨H.next, xn, by simp, by simp, by rw [Heap.get_push]; simp⟩⟩
      simp -implicitDefEqProofs only [appendA, Option.bind, Try.underlying39, srcOk, Bool.not_true, Bool.false_eq_true, if_false, hi, ze49, ce49, e1, e2, hok, if_true, appendTo, hn, hfit 0 (by omega), hs]
  · by_cases hn : l1.length = 0
    · have : l1 = [] := by simpa using hn
      subst this
      refine ⟨.sl b 0 l0.length 2, H, ?_, x0, .inr ⟨b, b1, b2, by simp, by simpa using b4⟩⟩
      simp -implicitDefEqProofs only [appendA, Option.bind, Try.underlying39, srcOk, Bool.not_true, Bool.false_eq_true, if_false, hi, ze49, ce49, e1, e2, hok, if_true, appendTo, List.length_nil, slFits, b4, sz49, flat_len]
      simp
      exact hok
    · refine ⟨.sl H.next 0 (l0.length + l1.length) 2, (H.kill b).push (.cells 49 (l0.flatMap pcells ++ l1.flatMap pcells)), ?_, (x0.kill b1).push _, .inr ⟨H.next, xn, by simp, by simp, by rw [Heap.get_push]; simp⟩⟩
      have hlob : lo ≤ b := by omega
      simp -implicitDefEqProofs only [appendA, Option.bind, Try.underlying39, srcOk, Bool.not_true, Bool.false_eq_true, if_false, hi, ze49, ce49, e1, e2, hok, if_true, appendTo, hn, b4, hlob, hs, flat_len, hfit _ h0, decide_true, Bool.and_self]
/-- a part of the pieces that came in -/
theorem RdI.part {v : AV} {l : List Pi} (h : RdI v l) (i j : Nat) (hij : i ≤ j) (hj : j ≤ l.length) (H : Heap) : ∃ u, RdI u ((l.drop i).take (j - i)) ∧ sliceA Try.prog H 39 v (some (.int .i64 i)) (some (.int .i64 j)) = some u ∧
    (i = 0 → sliceA Try.prog H 39 v none (some (.int .i64 j)) = some u) ∧ (j = l.length → sliceA Try.prog H 39 v (some (.int .i64 i)) none = some u) := by
  obtain ⟨a, cap, rfl, ha⟩ := h
  refine ⟨.rsl (if cap = i then a else a.map (·.add (i * 2))) (cap - i) 2 (((l.map fun p => AV.agg (pcells p)).drop i).take (j - i)), ⟨_, _, by rw [List.map_take, List.map_drop], fun hne => ?_⟩, ?_, ?_, ?_⟩
  · have : l ≠ [] := by rintro rfl; simp at hne
    have := ha this
    split
    · exact this
    · simpa using this
  · simp -implicitDefEqProofs [sliceA, Try.underlying39, sz49, boundA, hij, hj]
  · rintro rfl
    simp -implicitDefEqProofs [sliceA, Try.underlying39, sz49, boundA, hij, hj]
  · rintro rfl
    simp -implicitDefEqProofs [sliceA, Try.underlying39, sz49, boundA, hij, hj]
theorem RdI.elems {v : AV} {l : List Pi} (h : RdI v l) (H : Heap) : elemsA H 2 v = some (l.flatMap pcells) ∧ lenA H v = some l.length := by
  obtain ⟨a, cap, rfl, _⟩ := h
  exact ⟨by simp only [elemsA, decide_true, Bool.true_or, if_true, flat_cells], by simp [lenA]⟩
theorem getT_lay {n : Nat} {l : List Pc} (hL : Lay n l) (hn : n ≤ 64) (h1 : 1 ≤ n) (h4 : l.length ≤ 4) {w : Nat} (hw : w < 2 ^ n) : getT n w (l.map toPi) = .tup [.int .u64 (getF (places l) w : Nat), .int .i64 0] := by
  have h0 : chkE n (l.map toPi) = 0 := by
    have hk := lay_okFrom l [] (by simpa using hL)
    have hs : (decide ((1 : Int) ≤ (n : Int)) && decide ((n : Int) ≤ 64)) = true := by simp; omega
    unfold chkE
    rw [if_pos hs, if_neg (by simp; omega)]
    rw [if_pos (by simpa using hk)]
  simp only [getT, h0, if_true, Int.toNat_natCast, hw, natl_map]
theorem Lay.one {n : Nat} {l : List Pc} (hL : Lay n l) {p : Pc} (hp : p ∈ l) : Lay n [p] := ⟨fun q hq => by obtain rfl := List.mem_singleton.1 hq; exact hL.1 q hp, by simp [places, run_nodup]⟩
def Sp (size : Int) (w : Nat) (v : AV) (which many : Int) (fld s : Nat) (H : Heap) (r : Option (Ex × St)) : Prop :=
  r = some (.exit 0, ⟨[.int .i64 size, .int .u64 (w : Int), v, .int .i64 which, .int .i64 many, outE r 5, outE r 6, outE r 7, outE r 8, outE r 9, .bool false, .bool true, .int .u64 (fld : Int), outE r 13, .int .u64 (s : Int), outE r 15, outE r 16, outE r 17, outE r 18, outE r 19, outE r 20, outE r 21, outE r 22, outE r 23, outE r 24, outE r 25, outE r 26, outE r 27, outE r 28, outE r 29, outE r 30, outE r 31, outE r 32, outE r 33, outE r 34, outE r 35, outE r 36, outE r 37, outE r 38, outE r 39, outE r 40, outE r 41, outE r 42, outE r 43, outE r 44, outE r 45, outE r 46, outE r 47, outE r 48, outE r 49, outE r 50, outE r 51, outE r 52, outE r 53, outE r 54, outE r 55, outE r 56, outE r 57, outE r 58, outE r 59, outE r 60, outE r 61, outE r 62, outE r 63, outE r 64, outE r 65, outE r 66, outE r 67, outE r 68, outE r 69, outE r 70, outE r 71, outE r 72, outE r 73, outE r 74, outE r 75, outE r 76, outE r 77, outE r 78, outE r 79, outE r 80, outE r 81, outE r 82, outE r 83, outE r 84, outE r 85, outE r 86, outE r 87, outE r 88, outE r 89, outE r 90, outE r 91, outE r 92, outE r 93, outE r 94, outE r 95, outE r 96, outE r 97, outE r 98, outE r 99, outE r 100, outE r 101, outE r 102, outE r 103, outE r 104, outE r 105, outE r 106, outE r 107, outE r 108, outE r 109, outE r 110, outE r 111, outE r 112, outE r 113, outE r 114, outE r 115, outE r 116, outE r 117, outE r 118, outE r 119, outE r 120, outE r 121, outE r 122, outE r 123, outE r 124, outE r 125, outE r 126, outE r 127, outE r 128, outE r 129, outE r 130, outE r 131, outE r 132, outE r 133, outE r 134, outE r 135, outE r 136, outE r 137, outE r 138, outE r 139, outE r 140, outE r 141, outE r 142, outE r 143, outE r 144, outE r 145, outE r 146, outE r 147], [], H⟩)
end Go.Proofs.Ytlbkcdfllglddaa.fmt
/-! FormatSplits, the run: its loop. Conditions: in each statement. -/
namespace Go.Proofs.Ytlbkcdfllglddaa.fmt
open Go Go.Ab
set_option maxRecDepth 100000
set_option linter.unusedSimpArgs false
set_option linter.unusedVariables false
attribute [local simp] ox ou ko ky kn kd oy_seq oy_ret oy_exit oy_skip oy_cond oy_block oy_region oy_draw dr_eq dre_some stl_some st_nil st_op ot ov os_same sy_nil sy_op nxt_normal nxt_ret nxt_exit blk_exit blk_normal blk_ret reg_some cnd_true cnd_false opr_some grd_true grd_false fin_ret fin_normal finv_some Region.wanted opA callV aop evalL evalO putE binA bi_add bi_sub bi_mul bi_eql bi_neq bi_lss bi_leq bi_gtr bi_geq unA ofVal ofLeaf resultsA tupA AV.rfL AV.rf yielded_yv yv_bool yv_undef yv_none og_n List.replicate Option.bind heapFree onlyReads
theorem and63 {k : Nat} (h : k < 64) : binIntA .and .i64 (k : Int) 63 = some (.int .i64 (k : Int)) := by
  have : (BitVec.ofInt 64 (k : Int) &&& BitVec.ofInt 64 63).toNat = k := by
    have e : BitVec.ofInt 64 63 = BitVec.ofNat 64 63 := by decide
    rw [ofInt_nat, e, BitVec.toNat_and, toNat_ofNat64 (by omega), toNat_ofNat64 (by decide)]
    have := Nat.and_two_pow_sub_one_eq_mod k 6
    rw [show 2 ^ 6 - 1 = 63 from rfl] at this
    rw [this]; omega
  show some (AV.int .i64 (IntKind.i64.wrap ((BitVec.ofInt 64 (k : Int) &&& BitVec.ofInt 64 63).toNat : Int))) = _
  rw [this, wi64 (by omega) (by omega)]
set_option maxHeartbeats 8000000 in
theorem sp_loop (cx : Ctx) (lo : Nat) (H : Heap) (n w : Nat) (h1 : 1 ≤ n) (h2 : n ≤ 64) (hw : w < 2 ^ n) (l : List Pc) (hL : Lay n l) (h4 : l.length ≤ 4) (v : AV) (hI : RdI v (l.map toPi)) (which many : Int) (fld : Nat) :
    ∀ (m i : Nat) {x5 x6 x7 x8 x9 x13 x17 x18 x19 x20 x21 x22 x23 x24 x25 x26 x27 x28 x29 x30 x31 x32 x33 x34 x35 x36 x37 x38 x39 x40 x41 x42 x43 x44 x45 x46 x47 x48 x49 x50 x51 x52 x53 x54 x55 x56 x57 x58 x59 x60 x61 x62 x63 x64 x65 x66 x67 x68 x69 x70 x71 x72 x73 x74 x75 x76 x77 x78 x79 x80 x81 x82 x83 x84 x85 x86 x87 x88 x89 x90 x91 x92 x93 x94 x95 x96 x97 x98 x99 x100 x101 x102 x103 x104 x105 x106 x107 x108 x109 x110 x111 x112 x113 x114 x115 x116 x117 x118 x119 x120 x121 x122 x123 x124 x125 x126 x127 x128 x129 x130 x131 x132 x133 x134 x135 x136 x137 x138 x139 x140 x141 x142 x143 x144 x145 x146 x147 : AV}, i + m = l.length →
    Sp n w v which many fld (getF (places l) w) H (om Try.prog cx lo (loopAt Try.f7 0) ⟨[.int .i64 n, .int .u64 (w : Int), v, .int .i64 which, .int .i64 many, x5, x6, x7, x8, x9, .bool false, .bool true, .int .u64 (fld : Int), x13, .int .u64 (getF (places (l.take i)) w : Nat), .int .i64 (width (l.take i) : Nat), .int .i64 i, x17, x18, x19, x20, x21, x22, x23, x24, x25, x26, x27, x28, x29, x30, x31, x32, x33, x34, x35, x36, x37, x38, x39, x40, x41, x42, x43, x44, x45, x46, x47, x48, x49, x50, x51, x52, x53, x54, x55, x56, x57, x58, x59, x60, x61, x62, x63, x64, x65, x66, x67, x68, x69, x70, x71, x72, x73, x74, x75, x76, x77, x78, x79, x80, x81, x82, x83, x84, x85, x86, x87, x88, x89, x90, x91, x92, x93, x94, x95, x96, x97, x98, x99, x100, x101, x102, x103, x104, x105, x106, x107, x108, x109, x110, x111, x112, x113, x114, x115, x116, x117, x118, x119, x120, x121, x122, x123, x124, x125, x126, x127, x128, x129, x130, x131, x132, x133, x134, x135, x136, x137, x138, x139, x140, x141, x142, x143, x144, x145, x146, x147], [], H⟩) := by
  simp -implicitDefEqProofs +decide only [loopAt, loopIn, firstC, Try.f7, Option.getD, if_true, if_false]
  have hln := (hI.rd H).len
  rw [List.length_map] at hln
  obtain ⟨a1, a2, a3⟩ := hL.at64 h2
  have hw64 : w < 2 ^ 64 := Nat.lt_of_lt_of_le hw (two_pow_le h2)
  unfold Sp
  intro m
  induction m with
  | zero =>
    intro i x5 x6 x7 x8 x9 x13 x17 x18 x19 x20 x21 x22 x23 x24 x25 x26 x27 x28 x29 x30 x31 x32 x33 x34 x35 x36 x37 x38 x39 x40 x41 x42 x43 x44 x45 x46 x47 x48 x49 x50 x51 x52 x53 x54 x55 x56 x57 x58 x59 x60 x61 x62 x63 x64 x65 x66 x67 x68 x69 x70 x71 x72 x73 x74 x75 x76 x77 x78 x79 x80 x81 x82 x83 x84 x85 x86 x87 x88 x89 x90 x91 x92 x93 x94 x95 x96 x97 x98 x99 x100 x101 x102 x103 x104 x105 x106 x107 x108 x109 x110 x111 x112 x113 x114 x115 x116 x117 x118 x119 x120 x121 x122 x123 x124 x125 x126 x127 x128 x129 x130 x131 x132 x133 x134 x135 x136 x137 x138 x139 x140 x141 x142 x143 x144 x145 x146 x147 hi
    obtain rfl : i = l.length := by omega
    rw [oy_loop, List.take_length]
    simp -implicitDefEqProofs only [ox, ou, ko, ky, kn, kd, oy_seq, oy_ret, oy_exit, oy_skip, oy_cond, oy_block, oy_region, oy_draw, dr_eq, dre_some, stl_some, st_nil, st_op, ot, ov, os_same, sy_nil, sy_op, nxt_normal, nxt_ret, nxt_exit, blk_exit, blk_normal, blk_ret, reg_some, cnd_true, cnd_false, opr_some, grd_true, grd_false, fin_ret, fin_normal, finv_some, Region.wanted, opA, callV, aop, evalL, evalO, putE, binA, bi_add, bi_sub, bi_mul, bi_eql, bi_neq, bi_lss, bi_leq, bi_gtr, bi_geq, unA, ofVal, ofLeaf, resultsA, tupA, AV.rfL, AV.rf, yielded_yv, yv_bool, yv_undef, yv_none, og_n, List.replicate, Option.bind, heapFree, onlyReads, List.set, List.getD, List.getElem?_cons_succ, List.getElem?_cons_zero, Option.getD, Option.map, decide_true, decide_false, if_true, if_false, Bool.false_eq_true, Bool.not_true, Bool.not_false, beq_self_eq_true, Bool.true_and, Bool.and_true, Bool.and_self, Bool.false_and, Bool.and_false, Bool.true_or, Bool.or_true, Bool.false_or, Bool.or_false, Bool.or_self, List.length_cons, List.length_nil, List.cons_append, List.nil_append, ite_self, List.getElem?_toArray, Option.bind_some, Option.bind_none, og_tt, og_ff, og_tf, og_ft, Int.reduceBNe, Int.reduceBEq, Int.reduceLT, Int.reduceLE, hln, Int.lt_irrefl, Option.map]
    rfl
  | succ m ih =>
    intro i x5 x6 x7 x8 x9 x13 x17 x18 x19 x20 x21 x22 x23 x24 x25 x26 x27 x28 x29 x30 x31 x32 x33 x34 x35 x36 x37 x38 x39 x40 x41 x42 x43 x44 x45 x46 x47 x48 x49 x50 x51 x52 x53 x54 x55 x56 x57 x58 x59 x60 x61 x62 x63 x64 x65 x66 x67 x68 x69 x70 x71 x72 x73 x74 x75 x76 x77 x78 x79 x80 x81 x82 x83 x84 x85 x86 x87 x88 x89 x90 x91 x92 x93 x94 x95 x96 x97 x98 x99 x100 x101 x102 x103 x104 x105 x106 x107 x108 x109 x110 x111 x112 x113 x114 x115 x116 x117 x118 x119 x120 x121 x122 x123 x124 x125 x126 x127 x128 x129 x130 x131 x132 x133 x134 x135 x136 x137 x138 x139 x140 x141 x142 x143 x144 x145 x146 x147 hi
    have e1 : (i : Int) < (l.length : Int) := by omega
    have hlt : i < l.length := by omega
    have hmem : l[i] ∈ l := List.getElem_mem hlt
    have hgi : (l.map toPi)[i]? = some (toPi l[i]) := by rw [List.getElem?_map, List.getElem?_eq_getElem hlt]; rfl
    obtain ⟨q, q0, q1, i1, i2, i3, i4, i5, i6⟩ := (hI.rd H).at hgi
    obtain ⟨u, u1, u2, _, _⟩ := hI.part i (i + 1) (by omega) (by simp; omega) H
    have hdt : ((l.map toPi).drop i).take (i + 1 - i) = [l[i]].map toPi := by
      rw [← List.map_drop, List.drop_eq_getElem_cons hlt, show i + 1 - i = 1 by omega]; rfl
    rw [hdt] at u1
    have kg := get_rf u1 (by simp) (n : Int) w hw64
    rw [getT_lay (hL.one hmem) h2 h1 (by simp) hw] at kg
    have w3 : IntKind.i64.wrap ((i : Int) + 1) = ((i + 1 : Nat) : Int) := by rw [wi64 (by omega) (by omega)]; push_cast; rfl
    have htk : l.take (i + 1) = l.take i ++ [l[i]] := List.take_succ_eq_append_getElem hlt
    have hl1 : Lay n (l.take i ++ [l[i]]) := by
      have : (l.take i ++ [l[i]]) ++ l.drop (i + 1) = l := by rw [← htk, List.take_append_drop]
      rw [← this] at hL; exact hL.pre
    have hwd := hl1.width_le
    rw [width_snoc] at hwd
    have hp1 := (hL.1 _ hmem).1
    have ha := and63 (k := width (l.take i)) (by omega)
    have hc : IntKind.u64.wrap ((width (l.take i) : Nat) : Int) = ((width (l.take i) : Nat) : Int) := wrap_u64_lt (by omega)
    have hrun : places [l[i]] = run l[i] := by simp [places]
    rw [hrun] at kg
    have hs := u64_shl (a := getF (run l[i]) w) (y := width (l.take i)) (by omega)
    have hgl := getF_lt w (run l[i])
    rw [run_len] at hgl
    have hml : getF (run l[i]) w * 2 ^ width (l.take i) < 2 ^ 64 := by
      have : getF (run l[i]) w * 2 ^ width (l.take i) < 2 ^ (l[i]).2 * 2 ^ width (l.take i) := Nat.mul_lt_mul_of_pos_right hgl (Nat.two_pow_pos _)
      rw [← Nat.pow_add] at this
      exact Nat.lt_of_lt_of_le this (two_pow_le (by omega))
    rw [Nat.mod_eq_of_lt hml] at hs
    have hnx : getF (places (l.take (i + 1))) w = getF (places (l.take i)) w + getF (run l[i]) w * 2 ^ width (l.take i) := by
      rw [htk, places_snoc, getF_append, Nat.mul_comm]; rfl
    have hnl : getF (places (l.take (i + 1))) w < 2 ^ 64 := by
      rw [htk]
      exact Nat.lt_of_lt_of_le (getF_lt w _) (two_pow_le (by have := hl1.width_le; unfold width at this; omega))
    have hadd : IntKind.u64.wrap (((getF (places (l.take i)) w : Nat) : Int) + ((getF (run l[i]) w * 2 ^ width (l.take i) : Nat) : Int)) = ((getF (places (l.take (i + 1))) w : Nat) : Int) := by
      rw [← Int.natCast_add, ← hnx]; exact wrap_u64_lt hnl
    have hwn : IntKind.i64.wrap (((width (l.take i) : Nat) : Int) + ((l[i]).2 : Int)) = ((width (l.take (i + 1)) : Nat) : Int) := by
      rw [wi64 (by omega) (by omega), htk, width_snoc]; push_cast; rfl
    simp only [toPi] at i6
    generalize getF (run l[i]) w * 2 ^ width (l.take i) = prod at hs hadd
    generalize getF (run l[i]) w = part at kg hs
    have w3' : ((i : Int) + 1 : Int) = ((i + 1 : Nat) : Int) := by push_cast; rfl
    rw [oy_loop]
    simp -implicitDefEqProofs only [ox, ou, ko, ky, kn, kd, oy_seq, oy_ret, oy_exit, oy_skip, oy_cond, oy_block, oy_region, oy_draw, dr_eq, dre_some, stl_some, st_nil, st_op, ot, ov, os_same, sy_nil, sy_op, nxt_normal, nxt_ret, nxt_exit, blk_exit, blk_normal, blk_ret, reg_some, cnd_true, cnd_false, opr_some, grd_true, grd_false, fin_ret, fin_normal, finv_some, Region.wanted, opA, callV, aop, evalL, evalO, putE, binA, bi_add, bi_sub, bi_mul, bi_eql, bi_neq, bi_lss, bi_leq, bi_gtr, bi_geq, unA, ofVal, ofLeaf, resultsA, tupA, AV.rfL, AV.rf, yielded_yv, yv_bool, yv_undef, yv_none, og_n, List.replicate, Option.bind, heapFree, onlyReads, List.set, List.getD, List.getElem?_cons_succ, List.getElem?_cons_zero, Option.getD, Option.map, decide_true, decide_false, if_true, if_false, Bool.false_eq_true, Bool.not_true, Bool.not_false, beq_self_eq_true, Bool.true_and, Bool.and_true, Bool.and_self, Bool.false_and, Bool.and_false, Bool.true_or, Bool.or_true, Bool.false_or, Bool.or_false, Bool.or_self, List.length_cons, List.length_nil, List.cons_append, List.nil_append, ite_self, List.getElem?_toArray, Option.bind_some, Option.bind_none, og_tt, og_ff, og_tf, og_ft, Int.reduceBNe, Int.reduceBEq, Int.reduceLT, Int.reduceLE, hln, e1, w3, u2, kg, i1, i4, i6, ha, hc, hs, hadd, hwn, convertA, Try.underlying3, Try.underlying53, id_eq, List.getElem?_cons_succ, List.getElem?_cons_zero, Option.map]
    exact ih (i + 1) (by omega)
end Go.Proofs.Ytlbkcdfllglddaa.fmt
/-! FormatSplits, the run: whatever comes in, the law returns true. Conditions: numbers of their kinds, pieces that came in. -/
namespace Go.Proofs.Ytlbkcdfllglddaa.fmt
open Go Go.Ab
set_option maxRecDepth 100000
set_option linter.unusedSimpArgs false
set_option linter.unusedVariables false
attribute [local simp] ox ou ko ky kn kd oy_seq oy_ret oy_exit oy_skip oy_cond oy_block oy_region oy_draw dr_eq dre_some stl_some st_nil st_op ot ov os_same sy_nil sy_op nxt_normal nxt_ret nxt_exit blk_exit blk_normal blk_ret reg_some cnd_true cnd_false opr_some grd_true grd_false fin_ret fin_normal finv_some Region.wanted opA callV aop evalL evalO putE binA bi_add bi_sub bi_mul bi_eql bi_neq bi_lss bi_leq bi_gtr bi_geq unA ofVal ofLeaf resultsA tupA AV.rfL AV.rf yielded_yv yv_bool yv_undef yv_none og_n List.replicate Option.bind heapFree onlyReads
theorem run_split {a b c : Nat} (h : c ≤ b) : run (a, b) = run (a, c) ++ run (a + c, b - c) := by
  unfold run
  have e : b = c + (b - c) := by omega
  conv => lhs; rw [e, List.range_add]
  rw [List.map_append, List.map_map]
  congr 1
  exact List.map_congr_left fun i _ => by simp; omega
/-- a piece is divided into two -/
def splitN (l : List Pc) (k c : Nat) (p : Pc) : List Pc := l.take k ++ [(p.1, c), (p.1 + c, p.2 - c)] ++ l.drop (k + 1)
theorem split_places {l : List Pc} {k c : Nat} {p : Pc} (hk : l[k]? = some p) (hc : c ≤ p.2) : places (splitN l k c p) = places l := by
  obtain ⟨h1, e⟩ := List.getElem?_eq_some_iff.1 hk
  have h2 : l = l.take k ++ p :: l.drop (k + 1) := by
    conv => lhs; rw [← List.take_append_drop k l, List.drop_eq_getElem_cons h1, e]
  have h3 : places l = places (l.take k) ++ run p ++ places (l.drop (k + 1)) := by
    conv => lhs; rw [h2]
    simp [places]
  obtain ⟨a, b⟩ := p
  rw [h3, run_split hc]
  simp [splitN, places]
theorem split_lay {n : Nat} {l : List Pc} (hL : Lay n l) {k c : Nat} {p : Pc} (hk : l[k]? = some p) (h1 : 1 ≤ c) (h2 : c < p.2) : Lay n (splitN l k c p) := by
  have hp := hL.1 p (List.mem_of_getElem? hk)
  refine ⟨fun q hq => ?_, by rw [split_places hk (by omega)]; exact hL.2⟩
  simp only [splitN, List.mem_append, List.mem_cons, List.not_mem_nil, or_false] at hq
  rcases hq with (hq | rfl | rfl) | hq
  · exact hL.1 q (List.mem_of_mem_take hq)
  · simp only; omega
  · simp only; omega
  · exact hL.1 q (List.mem_of_mem_drop hq)
theorem bld49 (x y : Int) : buildA Try.prog 49 [(0, .int .i64 x), (1, .int .i64 y)] = some (.agg [.int .i64 x, .int .i64 y]) := by
  simp -implicitDefEqProofs [buildA, ze49, Try.underlying49, placesA, sz3, fillA, AV.cells, setRange]
theorem bsl49 (H : Heap) (a b c d : Int) : buildSliceA Try.prog H 39 2 [(0, .agg [.int .i64 a, .int .i64 b]), (1, .agg [.int .i64 c, .int .i64 d])] = some (.sl H.next 0 2 2, H.push (.cells 49 [.int .i64 a, .int .i64 b, .int .i64 c, .int .i64 d])) := by
  simp -implicitDefEqProofs [buildSliceA, Try.underlying39, sz49, ze49, fillA, zerosA, setRange, leafs, leafA, AV.cells]
set_option maxHeartbeats 20000000 in
theorem law7 (size : Int) (w : Nat) (hw : w < 2 ^ 64) (l : List Pi) (v : AV) (hI : RdI v l) (which many : Int) (hm1 : -9223372036854775808 ≤ many) (lo : Nat) (hlo : lo = 0) :
    callA Try.prog (om Try.prog) lo 7 [.int .i64 size, .int .u64 w, v, .int .i64 which, .int .i64 many] Heap.empty = some (.bool true, Heap.empty) := by
  have hrf : AV.rfL [.int .i64 size, .int .u64 w, v, .int .i64 which, .int .i64 many] = true := by simp [AV.rfL, AV.rf, hI.rf]
  rw [call_eq Try.func7 rfl rfl, hrf]
  have hlo' : (if true = true then Heap.empty.next else lo) ≤ Heap.empty.next := by simp
  generalize (if true = true then Heap.empty.next else lo) = lo' at hlo' ⊢
  have hln := (hI.rd Heap.empty).len
  by_cases h50 : 3 < l.length
  · have c : (3 : Int) < (l.length : Int) := by omega
    simp -implicitDefEqProofs only [Try.f7]
    simp -implicitDefEqProofs only [ox, ou, ko, ky, kn, kd, oy_seq, oy_ret, oy_exit, oy_skip, oy_cond, oy_block, oy_region, oy_draw, dr_eq, dre_some, stl_some, st_nil, st_op, ot, ov, os_same, sy_nil, sy_op, nxt_normal, nxt_ret, nxt_exit, blk_exit, blk_normal, blk_ret, reg_some, cnd_true, cnd_false, opr_some, grd_true, grd_false, fin_ret, fin_normal, finv_some, Region.wanted, opA, callV, aop, evalL, evalO, putE, binA, bi_add, bi_sub, bi_mul, bi_eql, bi_neq, bi_lss, bi_leq, bi_gtr, bi_geq, unA, ofVal, ofLeaf, resultsA, tupA, AV.rfL, AV.rf, yielded_yv, yv_bool, yv_undef, yv_none, og_n, List.replicate, Option.bind, heapFree, onlyReads, List.set, List.getD, List.getElem?_cons_succ, List.getElem?_cons_zero, Option.getD, Option.map, decide_true, decide_false, if_true, if_false, Bool.false_eq_true, Bool.not_true, Bool.not_false, beq_self_eq_true, Bool.true_and, Bool.and_true, Bool.and_self, Bool.false_and, Bool.and_false, Bool.true_or, Bool.or_true, Bool.false_or, Bool.or_false, Bool.or_self, List.length_cons, List.length_nil, List.cons_append, List.nil_append, ite_self, List.getElem?_toArray, Option.bind_some, Option.bind_none, og_tt, og_ff, og_tf, og_ft, Int.reduceBNe, Int.reduceBEq, Int.reduceLT, Int.reduceLE, alive_run, hln, c, Option.map]
  have c : ¬ ((3 : Int) < (l.length : Int)) := by omega
  have k5 := get_rf hI (by omega) size w hw
  by_cases h0 : chkE size l = 0
  case neg =>
    simp only [getT, h0, if_false] at k5
    simp -implicitDefEqProofs only [Try.f7]
    simp -implicitDefEqProofs only [ox, ou, ko, ky, kn, kd, oy_seq, oy_ret, oy_exit, oy_skip, oy_cond, oy_block, oy_region, oy_draw, dr_eq, dre_some, stl_some, st_nil, st_op, ot, ov, os_same, sy_nil, sy_op, nxt_normal, nxt_ret, nxt_exit, blk_exit, blk_normal, blk_ret, reg_some, cnd_true, cnd_false, opr_some, grd_true, grd_false, fin_ret, fin_normal, finv_some, Region.wanted, opA, callV, aop, evalL, evalO, putE, binA, bi_add, bi_sub, bi_mul, bi_eql, bi_neq, bi_lss, bi_leq, bi_gtr, bi_geq, unA, ofVal, ofLeaf, resultsA, tupA, AV.rfL, AV.rf, yielded_yv, yv_bool, yv_undef, yv_none, og_n, List.replicate, Option.bind, heapFree, onlyReads, List.set, List.getD, List.getElem?_cons_succ, List.getElem?_cons_zero, Option.getD, Option.map, decide_true, decide_false, if_true, if_false, Bool.false_eq_true, Bool.not_true, Bool.not_false, beq_self_eq_true, Bool.true_and, Bool.and_true, Bool.and_self, Bool.false_and, Bool.and_false, Bool.true_or, Bool.or_true, Bool.false_or, Bool.or_false, Bool.or_self, List.length_cons, List.length_nil, List.cons_append, List.nil_append, ite_self, List.getElem?_toArray, Option.bind_some, Option.bind_none, og_tt, og_ff, og_tf, og_ft, Int.reduceBNe, Int.reduceBEq, Int.reduceLT, Int.reduceLE, alive_run, hln, c, k5, chk_ne size l h0, List.getElem?_cons_succ, List.getElem?_cons_zero, Option.map]
  obtain ⟨n, lN, rfl, h1, h2, rfl, hL, h4⟩ := chk_ok h0
  by_cases hwn : w < 2 ^ n
  case neg =>
    simp only [getT, h0, if_true, Int.toNat_natCast, hwn, if_false] at k5
    simp -implicitDefEqProofs only [Try.f7]
    simp -implicitDefEqProofs only [ox, ou, ko, ky, kn, kd, oy_seq, oy_ret, oy_exit, oy_skip, oy_cond, oy_block, oy_region, oy_draw, dr_eq, dre_some, stl_some, st_nil, st_op, ot, ov, os_same, sy_nil, sy_op, nxt_normal, nxt_ret, nxt_exit, blk_exit, blk_normal, blk_ret, reg_some, cnd_true, cnd_false, opr_some, grd_true, grd_false, fin_ret, fin_normal, finv_some, Region.wanted, opA, callV, aop, evalL, evalO, putE, binA, bi_add, bi_sub, bi_mul, bi_eql, bi_neq, bi_lss, bi_leq, bi_gtr, bi_geq, unA, ofVal, ofLeaf, resultsA, tupA, AV.rfL, AV.rf, yielded_yv, yv_bool, yv_undef, yv_none, og_n, List.replicate, Option.bind, heapFree, onlyReads, List.set, List.getD, List.getElem?_cons_succ, List.getElem?_cons_zero, Option.getD, Option.map, decide_true, decide_false, if_true, if_false, Bool.false_eq_true, Bool.not_true, Bool.not_false, beq_self_eq_true, Bool.true_and, Bool.and_true, Bool.and_self, Bool.false_and, Bool.and_false, Bool.true_or, Bool.or_true, Bool.false_or, Bool.or_false, Bool.or_self, List.length_cons, List.length_nil, List.cons_append, List.nil_append, ite_self, List.getElem?_toArray, Option.bind_some, Option.bind_none, og_tt, og_ff, og_tf, og_ft, Int.reduceBNe, Int.reduceBEq, Int.reduceLT, Int.reduceLE, alive_run, hln, c, k5, List.getElem?_cons_succ, List.getElem?_cons_zero, Option.map]
  rw [getT_lay hL h2 h1 (by omega) hwn] at k5
  have L := fun cx => @sp_loop cx lo' Heap.empty n w h1 h2 hwn lN hL (by omega) v hI which many (getF (places lN) w) lN.length 0
  simp -implicitDefEqProofs +decide only [loopAt, loopIn, firstC, Try.f7, Option.getD, if_true, if_false] at L
  rw [List.length_map] at hln c
  simp -implicitDefEqProofs only [Try.f7]
  simp -implicitDefEqProofs only [ox, ou, ko, ky, kn, kd, oy_seq, oy_ret, oy_exit, oy_skip, oy_cond, oy_block, oy_region, oy_draw, dr_eq, dre_some, stl_some, st_nil, st_op, ot, ov, os_same, sy_nil, sy_op, nxt_normal, nxt_ret, nxt_exit, blk_exit, blk_normal, blk_ret, reg_some, cnd_true, cnd_false, opr_some, grd_true, grd_false, fin_ret, fin_normal, finv_some, Region.wanted, opA, callV, aop, evalL, evalO, putE, binA, bi_add, bi_sub, bi_mul, bi_eql, bi_neq, bi_lss, bi_leq, bi_gtr, bi_geq, unA, ofVal, ofLeaf, resultsA, tupA, AV.rfL, AV.rf, yielded_yv, yv_bool, yv_undef, yv_none, og_n, List.replicate, Option.bind, heapFree, onlyReads, List.set, List.getD, List.getElem?_cons_succ, List.getElem?_cons_zero, Option.getD, Option.map, decide_true, decide_false, if_true, if_false, Bool.false_eq_true, Bool.not_true, Bool.not_false, beq_self_eq_true, Bool.true_and, Bool.and_true, Bool.and_self, Bool.false_and, Bool.and_false, Bool.true_or, Bool.or_true, Bool.false_or, Bool.or_false, Bool.or_self, List.length_cons, List.length_nil, List.cons_append, List.nil_append, ite_self, List.getElem?_toArray, Option.bind_some, Option.bind_none, og_tt, og_ff, og_tf, og_ft, Int.reduceBNe, Int.reduceBEq, Int.reduceLT, Int.reduceLE, alive_run, hln, c, k5, List.getElem?_cons_succ, List.getElem?_cons_zero, Option.map]
  generalize hr : om Try.prog _ _ (Code.loop _) _ = r
  have P : Sp n w v which many (getF (places lN) w) (getF (places lN) w) Heap.empty r := by rw [← hr]; exact L _ (by simp)
  clear hr L
  unfold Sp at P
  generalize outE r = j at P
  subst P
  generalize hfld : getF (places lN) w = fld at *
  by_cases w0 : which < 0
  · simp -implicitDefEqProofs only [ox, ou, ko, ky, kn, kd, oy_seq, oy_ret, oy_exit, oy_skip, oy_cond, oy_block, oy_region, oy_draw, dr_eq, dre_some, stl_some, st_nil, st_op, ot, ov, os_same, sy_nil, sy_op, nxt_normal, nxt_ret, nxt_exit, blk_exit, blk_normal, blk_ret, reg_some, cnd_true, cnd_false, opr_some, grd_true, grd_false, fin_ret, fin_normal, finv_some, Region.wanted, opA, callV, aop, evalL, evalO, putE, binA, bi_add, bi_sub, bi_mul, bi_eql, bi_neq, bi_lss, bi_leq, bi_gtr, bi_geq, unA, ofVal, ofLeaf, resultsA, tupA, AV.rfL, AV.rf, yielded_yv, yv_bool, yv_undef, yv_none, og_n, List.replicate, Option.bind, heapFree, onlyReads, List.set, List.getD, List.getElem?_cons_succ, List.getElem?_cons_zero, Option.getD, Option.map, decide_true, decide_false, if_true, if_false, Bool.false_eq_true, Bool.not_true, Bool.not_false, beq_self_eq_true, Bool.true_and, Bool.and_true, Bool.and_self, Bool.false_and, Bool.and_false, Bool.true_or, Bool.or_true, Bool.false_or, Bool.or_false, Bool.or_self, List.length_cons, List.length_nil, List.cons_append, List.nil_append, ite_self, List.getElem?_toArray, Option.bind_some, Option.bind_none, og_tt, og_ff, og_tf, og_ft, Int.reduceBNe, Int.reduceBEq, Int.reduceLT, Int.reduceLE, w0, bne_self_eq_false]
  obtain ⟨k, rfl⟩ := Int.eq_ofNat_of_zero_le (show 0 ≤ which by omega)
  by_cases w1 : (lN.length : Int) ≤ (k : Int)
  · simp -implicitDefEqProofs only [ox, ou, ko, ky, kn, kd, oy_seq, oy_ret, oy_exit, oy_skip, oy_cond, oy_block, oy_region, oy_draw, dr_eq, dre_some, stl_some, st_nil, st_op, ot, ov, os_same, sy_nil, sy_op, nxt_normal, nxt_ret, nxt_exit, blk_exit, blk_normal, blk_ret, reg_some, cnd_true, cnd_false, opr_some, grd_true, grd_false, fin_ret, fin_normal, finv_some, Region.wanted, opA, callV, aop, evalL, evalO, putE, binA, bi_add, bi_sub, bi_mul, bi_eql, bi_neq, bi_lss, bi_leq, bi_gtr, bi_geq, unA, ofVal, ofLeaf, resultsA, tupA, AV.rfL, AV.rf, yielded_yv, yv_bool, yv_undef, yv_none, og_n, List.replicate, Option.bind, heapFree, onlyReads, List.set, List.getD, List.getElem?_cons_succ, List.getElem?_cons_zero, Option.getD, Option.map, decide_true, decide_false, if_true, if_false, Bool.false_eq_true, Bool.not_true, Bool.not_false, beq_self_eq_true, Bool.true_and, Bool.and_true, Bool.and_self, Bool.false_and, Bool.and_false, Bool.true_or, Bool.or_true, Bool.false_or, Bool.or_false, Bool.or_self, List.length_cons, List.length_nil, List.cons_append, List.nil_append, ite_self, List.getElem?_toArray, Option.bind_some, Option.bind_none, og_tt, og_ff, og_tf, og_ft, Int.reduceBNe, Int.reduceBEq, Int.reduceLT, Int.reduceLE, w0, hln, w1, bne_self_eq_false, Option.map]
  by_cases w2 : many < 1
  · simp -implicitDefEqProofs only [ox, ou, ko, ky, kn, kd, oy_seq, oy_ret, oy_exit, oy_skip, oy_cond, oy_block, oy_region, oy_draw, dr_eq, dre_some, stl_some, st_nil, st_op, ot, ov, os_same, sy_nil, sy_op, nxt_normal, nxt_ret, nxt_exit, blk_exit, blk_normal, blk_ret, reg_some, cnd_true, cnd_false, opr_some, grd_true, grd_false, fin_ret, fin_normal, finv_some, Region.wanted, opA, callV, aop, evalL, evalO, putE, binA, bi_add, bi_sub, bi_mul, bi_eql, bi_neq, bi_lss, bi_leq, bi_gtr, bi_geq, unA, ofVal, ofLeaf, resultsA, tupA, AV.rfL, AV.rf, yielded_yv, yv_bool, yv_undef, yv_none, og_n, List.replicate, Option.bind, heapFree, onlyReads, List.set, List.getD, List.getElem?_cons_succ, List.getElem?_cons_zero, Option.getD, Option.map, decide_true, decide_false, if_true, if_false, Bool.false_eq_true, Bool.not_true, Bool.not_false, beq_self_eq_true, Bool.true_and, Bool.and_true, Bool.and_self, Bool.false_and, Bool.and_false, Bool.true_or, Bool.or_true, Bool.false_or, Bool.or_false, Bool.or_self, List.length_cons, List.length_nil, List.cons_append, List.nil_append, ite_self, List.getElem?_toArray, Option.bind_some, Option.bind_none, og_tt, og_ff, og_tf, og_ft, Int.reduceBNe, Int.reduceBEq, Int.reduceLT, Int.reduceLE, w0, hln, w1, w2, bne_self_eq_false, Option.map]
  obtain ⟨c1, rfl⟩ := Int.eq_ofNat_of_zero_le (show 0 ≤ many by omega)
  have hkl : k < lN.length := by omega
  obtain ⟨p, hp⟩ : ∃ p, lN[k]? = some p := ⟨lN[k], List.getElem?_eq_getElem hkl⟩
  have hgi : (lN.map toPi)[k]? = some (toPi p) := by rw [List.getElem?_map, hp]; rfl
  obtain ⟨q, q0, q1, i1, i2, i3, i4, i5, i6⟩ := (hI.rd Heap.empty).at hgi
  simp only [toPi, pcells] at i2 i5 i6
  by_cases w3 : (p.2 : Int) ≤ (c1 : Int)
  · simp -implicitDefEqProofs only [ox, ou, ko, ky, kn, kd, oy_seq, oy_ret, oy_exit, oy_skip, oy_cond, oy_block, oy_region, oy_draw, dr_eq, dre_some, stl_some, st_nil, st_op, ot, ov, os_same, sy_nil, sy_op, nxt_normal, nxt_ret, nxt_exit, blk_exit, blk_normal, blk_ret, reg_some, cnd_true, cnd_false, opr_some, grd_true, grd_false, fin_ret, fin_normal, finv_some, Region.wanted, opA, callV, aop, evalL, evalO, putE, binA, bi_add, bi_sub, bi_mul, bi_eql, bi_neq, bi_lss, bi_leq, bi_gtr, bi_geq, unA, ofVal, ofLeaf, resultsA, tupA, AV.rfL, AV.rf, yielded_yv, yv_bool, yv_undef, yv_none, og_n, List.replicate, Option.bind, heapFree, onlyReads, List.set, List.getD, List.getElem?_cons_succ, List.getElem?_cons_zero, Option.getD, Option.map, decide_true, decide_false, if_true, if_false, Bool.false_eq_true, Bool.not_true, Bool.not_false, beq_self_eq_true, Bool.true_and, Bool.and_true, Bool.and_self, Bool.false_and, Bool.and_false, Bool.true_or, Bool.or_true, Bool.false_or, Bool.or_false, Bool.or_self, List.length_cons, List.length_nil, List.cons_append, List.nil_append, ite_self, List.getElem?_toArray, Option.bind_some, Option.bind_none, og_tt, og_ff, og_tf, og_ft, Int.reduceBNe, Int.reduceBEq, Int.reduceLT, Int.reduceLE, w0, hln, w1, w2, i1, i4, i6, w3, bne_self_eq_false, Option.map]
  have hps := hL.1 p (List.mem_of_getElem? hp)
  -- the memory that is made
  obtain ⟨H1, hH1⟩ : ∃ H1, H1 = (Heap.empty.push (.cells 49 [.int .i64 0, .int .i64 0])).set Heap.empty.next (.cells 49 [.int .i64 p.1, .int .i64 p.2]) := ⟨_, rfl⟩
  have st := new49 Heap.empty lo' hlo' p.1 p.2
  rw [← hH1] at st
  have hn1 : H1.next = Heap.empty.next + 1 := by rw [hH1]; simp
  have g1 : H1.get Heap.empty.next = some (.cells 49 [.int .i64 p.1, .int .i64 p.2]) := by rw [hH1, Heap.get_set, if_pos rfl]
  obtain ⟨u, u1, _, u2, _⟩ := hI.part 0 k (Nat.zero_le _) (by simp; omega) H1
  rw [List.drop_zero, Nat.sub_zero, ← List.map_take] at u1
  obtain ⟨ue, ul⟩ := u1.elems H1
  obtain ⟨s1, H2, r1, x1, o1⟩ := appP (H0 := H1) (s := .rsl none 0 0 []) (l0 := []) (.inl ⟨⟨0, rfl⟩, rfl⟩) (Ext.refl H1) (lo := lo') (by omega) (by simp) (by simp; omega) ue ul
  rw [List.nil_append] at o1
  have g2 : H2.get Heap.empty.next = some (.cells 49 [.int .i64 p.1, .int .i64 p.2]) := by rw [x1.2 _ (by omega)]; exact g1
  have e1 : IntKind.i64.wrap ((p.1 : Int) + (c1 : Int)) = (p.1 : Int) + (c1 : Int) := wi64 (by omega) (by omega)
  have e2 : IntKind.i64.wrap ((p.2 : Int) - (c1 : Int)) = (p.2 : Int) - (c1 : Int) := wi64 (by omega) (by omega)
  obtain ⟨H3, hH3⟩ : ∃ H3, H3 = H2.push (.cells 49 [.int .i64 p.1, .int .i64 c1, .int .i64 ((p.1 : Int) + c1), .int .i64 ((p.2 : Int) - c1)]) := ⟨_, rfl⟩
  have x3 : Ext H2 H3 := by rw [hH3]; exact (Ext.refl _).push _
  have be : elemsA H3 2 (.sl H2.next 0 2 2) = some ([((p.1 : Int), (c1 : Int)), ((p.1 : Int) + c1, (p.2 : Int) - c1)].flatMap pcells) := by
    rw [hH3]; simp -implicitDefEqProofs [elemsA, Heap.get_push, pcells]
  obtain ⟨s2, H4, r2, x4, o2⟩ := appP (o1.ext x3) (x1.trans x3) (lo := lo') (by omega) (by simp; omega) (by simp) be rfl
  obtain ⟨u', u3, _, _, u4⟩ := hI.part (k + 1) (lN.map toPi).length (by simp; omega) (Nat.le_refl _) H4
  have u4 := u4 rfl
  have hdt : ((lN.map toPi).drop (k + 1)).take ((lN.map toPi).length - (k + 1)) = (lN.drop (k + 1)).map toPi := by
    rw [← List.map_drop, List.take_of_length_le (by simp)]
  rw [hdt] at u3
  obtain ⟨ve, vl⟩ := u3.elems H4
  obtain ⟨s3, H5, r3, x5, o3⟩ := appP o2 x4 (lo := lo') (by omega) (by simp; omega) (by simp; omega) ve vl
  have hm : (lN.take k).map toPi ++ [((p.1 : Int), (c1 : Int)), ((p.1 : Int) + c1, (p.2 : Int) - c1)] ++ (lN.drop (k + 1)).map toPi = (splitN lN k c1 p).map toPi := by
    simp only [splitN, List.map_append, List.map_cons, List.map_nil, toPi]
    rw [show (((p.1 + c1 : Nat) : Int)) = (p.1 : Int) + c1 by omega, show (((p.2 - c1 : Nat) : Int)) = (p.2 : Int) - c1 by omega]
  rw [hm] at o3
  have hml : (splitN lN k c1 p).length ≤ 4 := by simp [splitN]; omega
  obtain ⟨H6, r4, x6⟩ := get_run n w hw ((splitN lN k c1 p).map toPi) s3 lo' H5 (o3.rd (by simp [splitN])) (by have := x5.1; omega) (by simp; omega)
  rw [getT_lay (split_lay hL hp (by omega) (by omega)) h2 h1 hml hwn, split_places hp (by omega), hfld] at r4
  have hb := bsl49 H2 p.1 c1 ((p.1 : Int) + c1) ((p.2 : Int) - c1)
  rw [← hH3] at hb
  have w4 : IntKind.i64.wrap ((k : Int) + 1) = ((k + 1 : Nat) : Int) := by rw [wi64 (by omega) (by omega)]; push_cast; rfl
  have u2 := u2 rfl
  simp -implicitDefEqProofs only [ox, ou, ko, ky, kn, kd, oy_seq, oy_ret, oy_exit, oy_skip, oy_cond, oy_block, oy_region, oy_draw, dr_eq, dre_some, stl_some, st_nil, st_op, ot, ov, os_same, sy_nil, sy_op, nxt_normal, nxt_ret, nxt_exit, blk_exit, blk_normal, blk_ret, reg_some, cnd_true, cnd_false, opr_some, grd_true, grd_false, fin_ret, fin_normal, finv_some, Region.wanted, opA, callV, aop, evalL, evalO, putE, binA, bi_add, bi_sub, bi_mul, bi_eql, bi_neq, bi_lss, bi_leq, bi_gtr, bi_geq, unA, ofVal, ofLeaf, resultsA, tupA, AV.rfL, AV.rf, yielded_yv, yv_bool, yv_undef, yv_none, og_n, List.replicate, Option.bind, heapFree, onlyReads, List.set, List.getD, List.getElem?_cons_succ, List.getElem?_cons_zero, Option.getD, Option.map, decide_true, decide_false, if_true, if_false, Bool.false_eq_true, Bool.not_true, Bool.not_false, beq_self_eq_true, Bool.true_and, Bool.and_true, Bool.and_self, Bool.false_and, Bool.and_false, Bool.true_or, Bool.or_true, Bool.false_or, Bool.or_false, Bool.or_self, List.length_cons, List.length_nil, List.cons_append, List.nil_append, ite_self, List.getElem?_toArray, Option.bind_some, Option.bind_none, og_tt, og_ff, og_tf, og_ft, Int.reduceBNe, Int.reduceBEq, Int.reduceLT, Int.reduceLE, w0, hln, w1, w2, i1, i2, i4, i6, w3, sz49, ze49, AV.cells, leafs, leafA, List.all_cons, List.all_nil, st, u2, r1, fa0, fa1, ld3, g2, cellO_some, evalParts, bld49, e1, e2, hb, r2, w4, u4, r3, r4, id_eq, bne_self_eq_false, List.getElem?_cons_succ, List.getElem?_cons_zero, Option.map, Nat.zero_add]
end Go.Proofs.Ytlbkcdfllglddaa.fmt
