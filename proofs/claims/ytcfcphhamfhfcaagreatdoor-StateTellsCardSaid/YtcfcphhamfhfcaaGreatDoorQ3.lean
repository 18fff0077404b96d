/- What the law's proof leans on, part 22. Conditions: in each statement. -/
import Derived.Test.YtcfcphhamfhfcaaGreatDoorQ2
import Derived.Test.YtcfcphhamfhfcaaGreatDoorQ1
set_option linter.all false
namespace Go.Proofs.YtcfcphhamfhfcaaGreatDoor.v
open Go Go.Ab
set_option maxRecDepth 100000
set_option maxHeartbeats 4000000
set_option linter.unusedSimpArgs false
set_option linter.unusedVariables false
theorem zxv : ∀ {l : List Bn} {k : Nat} (h : k < l.length), (bnC l)[k * 3]? = some (.str l[k].1)
 | x :: l, 0, h => rfl
 | x :: l, k + 1, h => by
  have := zxv (l := l) (k := k) (by simpa using h)
  rw [show (k + 1) * 3 = k * 3 + 3 by omega]
  simpa [bnC] using this
theorem zxw : ∀ {l : List Bn} {k : Nat} (h : k < l.length), (bnC l)[k * 3 + 1]? = some (.int .i64 l[k].2)
 | x :: l, 0, h => rfl
 | x :: l, k + 1, h => by
  have := zxw (l := l) (k := k) (by simpa using h)
  rw [show (k + 1) * 3 + 1 = k * 3 + 1 + 3 by omega]
  simpa [bnC] using this
abbrev lH (l : List Bn) : Heap := ⟨1, [some (.cells 221 (bnC l))]⟩
theorem yaq0 {l : List Bn} {i k : Nat} (hi : i < l.length) (hk : k < l.length) : bad2 l i k = (decide (l[k].1 = l[i].1) && !decide (l[k].2 = l[i].2)) := by
 simp only [bad2, List.getElem?_eq_getElem hi, List.getElem?_eq_getElem hk]
theorem yakj (l : List Bn) (hl : l.length < 2 ^ 62) (i : Nat) (hi : i < l.length) : ∀ k, k ≤ i → lim (some [3, 4]) 0 (blk 2 (om Tryz.prog ⟨168, none⟩ 0 (.loop (lpb Tryz.f168 1)) ⟨⟨54, [(3, .sl 0 0 l.length 3), (4, .int .i64 i), (5, .int .i64 k)]⟩, [], lH l⟩)) =
  bif zb9 (fun k => !bad2 l i k) k i then some (.normal, ⟨⟨54, [(3, .sl 0 0 l.length 3), (4, .int .i64 i)]⟩, [], lH l⟩) else some (.ret, ⟨⟨54, [(2, .int .i64 14)]⟩, [], ⟨0, []⟩⟩) := by
 refine zb8 ?_ (fun k h ih => ?_) <;> rw [zae]
 ·simp (maxSteps := 1000000) -implicitDefEqProofs only [↓reduceIte, ↓cond_true, ↓cond_false, sr1, sr2, kA, seval, d168, zfr, n168, e168, lH, zba, zcv, zdl]
 ·rw [zc5 h, yaq0 hi (show k < l.length by omega)]
  have hk : k < l.length := by omega
  cases hn : decide (l[k].1 = l[i].1) with
  | true =>
   cases hw : decide (l[k].2 = l[i].2) with
   | true => simp (maxSteps := 1000000) -implicitDefEqProofs only [↓reduceIte, ↓cond_true, ↓cond_false, sr1, sr2, kA, seval, d168, zfr, n168, e168, lH, dlt_t h, wi_nat (show k < 2 ^ 62 by omega), Go.Ab.ix_sl hk, Go.Ab.ix_sl hi, zxv hk, zxv hi, zxw hk, zxw hi, hn, hw, ih, zcv, zdl]
   | false => simp (maxSteps := 1000000) -implicitDefEqProofs only [↓reduceIte, ↓cond_true, ↓cond_false, sr1, sr2, kA, seval, d168, zfr, n168, e168, lH, dlt_t h, wi_nat (show k < 2 ^ 62 by omega), Go.Ab.ix_sl hk, Go.Ab.ix_sl hi, zxv hk, zxv hi, zxw hk, zxw hi, hn, hw, ih, zcv, zdl]
  | false => simp (maxSteps := 1000000) -implicitDefEqProofs only [↓reduceIte, ↓cond_true, ↓cond_false, sr1, sr2, kA, seval, d168, zfr, n168, e168, lH, dlt_t h, wi_nat (show k < 2 ^ 62 by omega), Go.Ab.ix_sl hk, Go.Ab.ix_sl hi, zxv hk, zxv hi, zxw hk, zxw hi, hn, ih, zcv, zdl]
theorem yaki (l : List Bn) (hl : l.length < 2 ^ 62) : ∀ i, i ≤ l.length → lim (some []) 0 (blk 0 (om Tryz.prog ⟨168, none⟩ 0 (.loop (lpb Tryz.f168 0)) ⟨⟨54, [(3, .sl 0 0 l.length 3), (4, .int .i64 i)]⟩, [], lH l⟩)) =
  bif zb9 (fun i => zb9 (fun k => !bad2 l i k) 0 i) i l.length then some (.normal, ⟨⟨54, []⟩, [], ⟨0, []⟩⟩) else some (.ret, ⟨⟨54, [(2, .int .i64 14)]⟩, [], ⟨0, []⟩⟩) := by
 refine zb8 ?_ (fun i h ih => ?_) <;> rw [zae]
 ·simp (maxSteps := 1000000) -implicitDefEqProofs only [↓reduceIte, ↓cond_true, ↓cond_false, sr1, sr2, kA, seval, d168, zfr, n168, e168, lH, zba, zcv, zdl]
 ·have L := yakj l hl i h 0 (Nat.zero_le _)
  rw [zbr h]
  simp only [lH, Int.natCast_zero] at L
  cases ha : zb9 (fun k => !bad2 l i k) 0 i with
  | true =>
   rw [ha] at L
   simp (maxSteps := 1000000) -implicitDefEqProofs only [↓reduceIte, ↓cond_true, ↓cond_false, sr1, sr2, kA, seval, d168, zfr, n168, e168, lH, dlt_t h, wi_nat (show i < 2 ^ 62 by omega), L, ih, zcv, zdl]
  | false =>
   rw [ha] at L
   simp (maxSteps := 1000000) -implicitDefEqProofs only [↓reduceIte, ↓cond_true, ↓cond_false, sr1, sr2, kA, seval, d168, zfr, n168, e168, lH, dlt_t h, L, zcv, zdl]
theorem zw0 (t : MTerm) (ho : FOk t) (hz : t.sz < 1000000) : zaq Tryz.prog (om Tryz.prog) 168 [zag t] ⟨0, []⟩ = some (.int .i64 (zut t), ⟨0, []⟩) := by
 have h1 := zmw t ho.sz
 have h2 := yacj t ho.sz
 have h3 := yacn t ho
 have h4 := yaln t hz
 have hv := zm1 t
 simp only [zag, zah] at h1 h2 h3 h4
 rw [yar6 _ _ (by simp)]
 cases hs : zrz t with
 | true =>
  have hs' := hs
  unfold zrz at hs'
  simp (maxSteps := 1000000) -implicitDefEqProofs only [↓reduceIte, ↓cond_true, ↓cond_false, sr1, sr2, kA, seval, d168, zfr, n168, e168, zag, zah, h1, h2, hs', zut, hs]
 | false =>
  have hs' := hs
  unfold zrz at hs'
  simp only [Bool.or_eq_false_iff] at hs'
  cases hf : zep t with
  | false => simp (maxSteps := 1000000) -implicitDefEqProofs only [↓reduceIte, ↓cond_true, ↓cond_false, sr1, sr2, kA, seval, d168, zfr, n168, e168, zag, zah, h1, h2, h3, hf, hs'.1, hs'.2, zut, hs]
  | true =>
   cases hl : zh4 t with
   | nil =>
    rw [hl, zo9] at h4
    simp (maxSteps := 1000000) -implicitDefEqProofs only [↓reduceIte, ↓cond_true, ↓cond_false, sr1, sr2, kA, seval, d168, zfr, n168, e168, zag, zah, h1, h2, h3, h4, hf, hs'.1, hs'.2, zut, hs, zbs, zae, hl, yad3, zba]
   | cons z u =>
    have L := yaki (z :: u) (by rw [hl] at hv; omega) 0 (Nat.zero_le _)
    rw [hl, zjn] at h4
    have ev : yad3 (z :: u) = zb9 (fun i => zb9 (fun k => !bad2 (z :: u) i k) 0 i) 0 (z :: u).length := rfl
    rw [← ev] at L
    simp only [lH, zzu, List.length_cons, Int.natCast_zero] at L
    simp (maxSteps := 1000000) -implicitDefEqProofs only [↓reduceIte, ↓cond_true, ↓cond_false, sr1, sr2, kA, seval, d168, zfr, n168, e168, zag, zah, h1, h2, h3, h4, hf, hs'.1, hs'.2, zut, hs, L, hl, zcv, zdl]
abbrev yal0 (t tb : TypeId) (m0 m1 m2 m3 m4 m5 m6 : AV) (ok : Bool) (l : List Bool) : Heap := ⟨2, [some (.cells t [m0, m1, m2, m3, m4, m5, m6, .bool ok]), some (.cells tb (l.map AV.bool))]⟩
theorem yatz (t tb : TypeId) (m0 m1 m2 m3 m4 m5 m6 : AV) (l : List Bool) (hl : l.length < 2 ^ 62)
 (hr : ∀ ρ, AV.renL ρ [m0, m1, m2, m3, m4, m5, m6] = [m0, m1, m2, m3, m4, m5, m6]) (hf : AV.refsL [m0, m1, m2, m3, m4, m5, m6] = []) : ∀ i, i ≤ l.length → ∀ ok, lim (some []) 2 (blk 0 (om Tryz.prog ⟨85, none⟩ 2 (.loop (lpb Tryz.f85 0)) ⟨⟨23, [(0, .ptr 0 0), (6, .sl 1 0 l.length 1), (7, .int .i64 l.length), (8, .int .i64 i)]⟩, [], yal0 t tb m0 m1 m2 m3 m4 m5 m6 ok l⟩))
   = some (.normal, ⟨⟨23, []⟩, [], yal0 t tb m0 m1 m2 m3 m4 m5 m6 (ok && (l.drop i).all id) l⟩) := by
 simp only [renL_cons, renL_nil, List.cons.injEq, and_true] at hr
 simp only [refsL_cons, refsL_nil, List.append_eq_nil_iff, and_true] at hf
 refine zb8 (fun ok => ?_) (fun i h ih ok => ?_) <;> rw [zae]
 ·simp (maxSteps := 1000000) -implicitDefEqProofs only [↓reduceIte, ↓cond_true, ↓cond_false, sr1, sr2, kA, seval, d85, n85, e85, List.drop_length, hr, hf]
 ·have e1 : (l.map AV.bool)[i]? = some (.bool l[i]) := by simp [h]
  have tk : (l.drop i).all id = (l[i] && (l.drop (i + 1)).all id) := by rw [List.drop_eq_getElem_cons h]; rfl
  simp (maxSteps := 1000000) -implicitDefEqProofs only [↓reduceIte, ↓cond_true, ↓cond_false, sr1, sr2, kA, seval, d85, n85, e85, dlt_t h, wi_nat (show i < 2 ^ 62 by omega), h, e1, hr, hf, ih, tk, Bool.and_assoc]
theorem yal1 (t tb : TypeId) (m0 m1 m2 m3 m4 m5 m6 : AV) (l : List Bool) (hl : l.length < 2 ^ 62)
 (hr : ∀ ρ, AV.renL ρ [m0, m1, m2, m3, m4, m5, m6] = [m0, m1, m2, m3, m4, m5, m6]) (hf : AV.refsL [m0, m1, m2, m3, m4, m5, m6] = []) (ok : Bool) :
  zaq Tryz.prog (om Tryz.prog) 85 [.ptr 0 0, .sl 1 0 l.length 1] (yal0 t tb m0 m1 m2 m3 m4 m5 m6 ok l) = some (.tup [], yal0 t tb m0 m1 m2 m3 m4 m5 m6 (ok && l.all id) l) := by
 have L := yatz t tb m0 m1 m2 m3 m4 m5 m6 l hl hr hf 0 (Nat.zero_le _) ok
 simp only [renL_cons, renL_nil, List.cons.injEq, and_true] at hr
 simp only [refsL_cons, refsL_nil, List.append_eq_nil_iff, and_true] at hf
 rw [Int.natCast_zero, List.drop_zero] at L
 rw [yax0 _ _ (by simp)]
 simp (maxSteps := 1000000) -implicitDefEqProofs only [↓reduceIte, ↓cond_true, ↓cond_false, sr1, sr2, kA, seval, d85, n85, e85, hr, hf, L]
theorem yatt (a : Addr) (c : Nat) (x y : Int) : zaq Tryz.prog (om Tryz.prog) 157 [.rsl (some a) c 1 [.int .i64 x, .int .i64 y]] ⟨0, []⟩ = some (.int .i64 (bif decide (x < y) then y else x), ⟨0, []⟩) := by
 rw [yar0 _ _ (by simp)]
 simp (maxSteps := 1000000) -implicitDefEqProofs only [↓reduceIte, ↓cond_true, ↓cond_false, sr1, sr2, kA, seval, d157, n157, e157, zdt, zae]
theorem zlw (n : Nat) (k : Int) (hk : 0 ≤ k) : zaq Tryz.prog (om Tryz.prog) 134 [.int .i64 k, .sl 0 0 1 1] ⟨1, [some (.cells 3 [.int .i64 n])]⟩ = some (.bool (decide ((n : Int) ≤ k)), ⟨1, [none]⟩) := by
 rw [yarm _ _ (by simp)]
 have e : (bif decide ((n : Int) < 0) then (0 : Int) else n) = n := by rw [decide_eq_false (by omega)]; rfl
 simp (maxSteps := 1000000) -implicitDefEqProofs only [↓reduceIte, ↓cond_true, ↓cond_false, sr1, sr2, kA, seval, d134, n134, zdf, yatt, e]
 trace_state
theorem yanf {l : List ByteArray} {n : Nat} (h : n = l.length) : (l.map AV.str).take n = l.map AV.str := by rw [List.take_of_length_le (by simp [h])]
theorem ya5q {a : Addr} {l : List ByteArray} : okS (some a) (l.map AV.str) = true := rfl
abbrev nm0 : Heap := ⟨1, [some (.cells 133 [.rsl none 0 0 []])]⟩
abbrev nm1 (l : List ByteArray) : Heap := ⟨2, [some (.cells 133 [.sl 1 0 l.length 1]), some (.cells 9 (l.map AV.str))]⟩
theorem yagc (s : ByteArray) : zaq Tryz.prog (om Tryz.prog) 159 [.rsl none 0 0 [], .str s] ⟨0, []⟩ = some (.int .i64 (-1), ⟨0, []⟩) := by
 rw [yae4 _ _ (by simp)]
 simp (maxSteps := 1000000) -implicitDefEqProofs only [↓reduceIte, ↓cond_true, ↓cond_false, sr1, sr2, kA, seval, d159, n159, e159, zae]
theorem contains_nil (s : ByteArray) : zaq Tryz.prog (om Tryz.prog) 136 [.rsl none 0 0 [], .str s] ⟨0, []⟩ = some (.bool false, ⟨0, []⟩) := by
 rw [yae3 _ _ (by simp)]
 simp (maxSteps := 1000000) -implicitDefEqProofs only [↓reduceIte, ↓cond_true, ↓cond_false, sr1, sr2, kA, seval, d136, n136, yagc s]
abbrev nm2 (l : List ByteArray) : Heap := ⟨3, [some (.cells 133 [.sl 2 0 l.length 1]), none, some (.cells 9 (l.map AV.str))]⟩
theorem zjy (s : ByteArray) (hs : s.size < 2 ^ 62) : zaq Tryz.prog (om Tryz.prog) 91 [.ptr 0 0, .str s] nm0 = some (.bool (zbm s), nm1 [s]) := by
 rw [yaod _ _ (by simp)]
 simp (maxSteps := 1000000) -implicitDefEqProofs only [↓reduceIte, ↓cond_true, ↓cond_false, sr1, sr2, kA, seval, d91, n91, zoz s hs, contains_nil s, nm0, nm1, zdf]
 trace_state
theorem ziu (l : List ByteArray) (s : ByteArray) (hs : s.size < 2 ^ 62) (hl : l.length < 1000000) : zaq Tryz.prog (om Tryz.prog) 91 [.ptr 0 0, .str s] (nm1 l) = some (.bool (zbm s && !zn3 l s), nm2 (l ++ [s])) := by
 have c0 := fun a c => zvt (some a) c l s rfl (by omega)
 have f1 : zsd 16 l.length 1 = true := zdf (by omega) (by omega)
 rw [yaod _ _ (by simp)]
 simp (maxSteps := 1000000) -implicitDefEqProofs only [↓reduceIte, ↓cond_true, ↓cond_false, sr1, sr2, kA, seval, d91, n91, zoz s hs, c0, nm1, zdf, yanf, f1, nm2]
 trace_state
abbrev zeh (m : MMach) : Heap := ⟨1, [some (.cells 27 (zad m))]⟩
structure Bd (m : MMach) : Prop where
 r : m.regs.length < 1000000
 b : m.banks.length < 1000000
 u : m.units.length < 1000000
 i : m.instrs.length < 1000000
 br : ∀ b ∈ m.banks, b.regs.length < 1000000
 o : ∀ s ∈ m.instrs, s.operands.length < 1000000
 e : ∀ s ∈ m.instrs, s.effects.length < 1000000
 p : ∀ s ∈ m.instrs, ∀ o ∈ s.operands, o.pieces.length < 1000000
def yaev (b : MBank) : Bool := decide ((b.regs.length : Int) ≤ 64)
def opdF (o : MOpd) : Bool := decide ((o.pieces.length : Int) ≤ 4)
def zwb (s : MInstr) : Bool := decide ((s.operands.length : Int) ≤ 4) && (decide ((s.effects.length : Int) ≤ 4) && s.operands.all opdF)
theorem ztj {α : Type} {l : List α} {p : α → Bool} {i : Nat} (h : i < l.length) : (l.drop i).all p = (p l[i] && (l.drop (i + 1)).all p) := by
 rw [List.drop_eq_getElem_cons h]; rfl
theorem yam1 (m : MMach) (hB : Bd m) : ∀ i, i ≤ m.banks.length → ∀ ok, lim (some [1, 3]) 0 (blk 0 (om Tryz.prog ⟨84, none⟩ 0 (.loop (lpb Tryz.f84 0)) ⟨⟨92, [(1, .ptr 0 0), (3, .bool ok), (37, .rsl (slA m.pb m.banks) m.pb.cap 2 (m.banks.map zem)), (38, .int .i64 m.banks.length), (39, .int .i64 i)]⟩, [], zeh m⟩)) = some (.normal, ⟨⟨92, [(1, .ptr 0 0), (3, .bool (ok && (m.banks.drop i).all yaev))]⟩, [], zeh m⟩) := by
 have hb := hB.b
 refine zb8 (fun ok => ?_) (fun i h ih ok => ?_) <;> rw [zae]
 ·simp (maxSteps := 1000000) -implicitDefEqProofs only [↓reduceIte, ↓cond_true, ↓cond_false, sr1, sr2, kA, seval, d84, n84, zyn, e84, zeh, zad, List.drop_length]
 ·simp (maxSteps := 1000000) -implicitDefEqProofs only [↓reduceIte, ↓cond_true, ↓cond_false, sr1, sr2, kA, seval, d84, n84, zyn, e84, zeh, zad, dlt_t h, wi_nat (show i < 2 ^ 62 by omega), ix_sl zab h, zem, zlw, ih, ztj h, yaev, Bool.and_assoc]
  trace_state
theorem yam3 (p : Pl) (l : List MOpd) (hl : l.length < 1000000) (a53 : Option Addr) (c53 : Nat) (v53 : List AV) (n54 n55 : Int) : ∀ i, i ≤ l.length → ∀ ok, lim (some [3, 53, 54, 55]) 0 (blk 4 (om Tryz.prog ⟨84, none⟩ 0 (.loop (lpb Tryz.f84 2)) ⟨⟨92, [(3, .bool ok), (53, .rsl a53 c53 9 v53), (54, .int .i64 n54), (55, .int .i64 n55), (75, .rsl (slA p l) p.cap 6 (l.map zbj)), (76, .int .i64 l.length), (77, .int .i64 i)]⟩, [], ⟨0, []⟩⟩)) = some (.normal, ⟨⟨92, [(3, .bool (ok && (l.drop i).all opdF)), (53, .rsl a53 c53 9 v53), (54, .int .i64 n54), (55, .int .i64 n55)]⟩, [], ⟨0, []⟩⟩) := by
 refine zb8 (fun ok => ?_) (fun i h ih ok => ?_) <;> rw [zae]
 ·simp (maxSteps := 1000000) -implicitDefEqProofs only [↓reduceIte, ↓cond_true, ↓cond_false, sr1, sr2, kA, seval, d84, n84, zyn, e84, List.drop_length]
 ·simp (maxSteps := 1000000) -implicitDefEqProofs only [↓reduceIte, ↓cond_true, ↓cond_false, sr1, sr2, kA, seval, d84, n84, zyn, e84, dlt_t h, wi_nat (show i < 2 ^ 62 by omega), ix_sl zab h, zbj, zlw, ih, ztj h, opdF, Bool.and_assoc]
theorem yam2 (m : MMach) (hB : Bd m) : ∀ i, i ≤ m.instrs.length → ∀ ok, lim (some [3]) 0 (blk 2 (om Tryz.prog ⟨84, none⟩ 0 (.loop (lpb Tryz.f84 1)) ⟨⟨92, [(3, .bool ok), (53, .rsl (slA m.pi m.instrs) m.pi.cap 9 (m.instrs.map zaf)), (54, .int .i64 m.instrs.length), (55, .int .i64 i)]⟩, [], ⟨0, []⟩⟩)) = some (.normal, ⟨⟨92, [(3, .bool (ok && (m.instrs.drop i).all zwb))]⟩, [], ⟨0, []⟩⟩) := by
 have hi := hB.i
 refine zb8 (fun ok => ?_) (fun i h ih ok => ?_) <;> rw [zae]
 ·simp (maxSteps := 1000000) -implicitDefEqProofs only [↓reduceIte, ↓cond_true, ↓cond_false, sr1, sr2, kA, seval, d84, n84, zyn, e84, List.drop_length]
 ·have L := yam3 m.instrs[i].po m.instrs[i].operands (hB.o _ (by simp)) (slA m.pi m.instrs) m.pi.cap (m.instrs.map zaf) m.instrs.length i 0 (Nat.zero_le _)
  simp only [Int.natCast_zero, List.drop_zero] at L
  simp (maxSteps := 1000000) -implicitDefEqProofs only [↓reduceIte, ↓cond_true, ↓cond_false, sr1, sr2, kA, seval, d84, n84, zyn, e84, dlt_t h, wi_nat (show i < 2 ^ 62 by omega), ix_sl zab h, zaf, zlw, L, ih, ztj h, zwb, Bool.and_assoc]
def zk2 (m : MMach) : Bool := decide ((m.regs.length : Int) ≤ 64) && (decide ((m.banks.length : Int) ≤ 16) && (decide ((m.units.length : Int) ≤ 8) && decide ((m.instrs.length : Int) ≤ 64))) && m.banks.all yaev && m.instrs.all zwb
theorem yaii (m : MMach) (hB : Bd m) : zaq Tryz.prog (om Tryz.prog) 84 [zac m] ⟨0, []⟩ = some (.bool (zk2 m), ⟨0, []⟩) := by
 have L := yam1 m hB 0 (Nat.zero_le _)
 have L1 := yam2 m hB 0 (Nat.zero_le _)
 simp only [Int.natCast_zero, List.drop_zero] at L L1
 rw [yaxz _ _ (by simp)]
 simp (maxSteps := 1000000) -implicitDefEqProofs only [↓reduceIte, ↓cond_true, ↓cond_false, sr1, sr2, kA, seval, d84, n84, zyn, e84, zac, zlw, L, L1, zk2]
def yaka (b : MBank) : Bool := decide ((64 : Int) < b.regs.length)
def opdG (o : MOpd) : Bool := decide ((4 : Int) < o.pieces.length)
theorem yajk (m : MMach) (hB : Bd m) : ∀ i, i ≤ m.banks.length → lim (some [1]) 0 (blk 0 (om Tryz.prog ⟨76, none⟩ 0 (.loop (lpb Tryz.f76 0)) ⟨⟨91, [(1, .ptr 0 0), (3, .int .i64 i)]⟩, [], zeh m⟩)) = bif (m.banks.drop i).all (fun x => !yaka x) then some (.normal, ⟨⟨91, [(1, .ptr 0 0)]⟩, [], zeh m⟩) else some (.ret, ⟨⟨91, [(2, .bool false)]⟩, [], ⟨0, []⟩⟩) := by
 have hb := hB.b
 refine zb8 ?_ (fun i h ih => ?_) <;> rw [zae]
 ·simp (maxSteps := 1000000) -implicitDefEqProofs only [↓reduceIte, ↓cond_true, ↓cond_false, sr1, sr2, kA, seval, d76, n76, zym, e76, List.drop_length]
 ·rw [ze7 h]
  simp (maxSteps := 1000000) -implicitDefEqProofs only [↓reduceIte, ↓cond_true, ↓cond_false, sr1, sr2, kA, seval, d76, n76, zym, e76, dlt_t h, wi_nat (show i < 2 ^ 62 by omega), ix_sl zab h, zem, ih]
  rfl
theorem yajm (m : MMach) (hB : Bd m) (j : Nat) (hj : j < m.instrs.length) : ∀ i, i ≤ m.instrs[j].operands.length → lim (some [1, 4]) 0 (blk 4 (om Tryz.prog ⟨76, none⟩ 0 (.loop (lpb Tryz.f76 2)) ⟨⟨91, [(1, .ptr 0 0), (4, .int .i64 j), (5, .int .i64 i)]⟩, [], zeh m⟩)) = bif (m.instrs[j].operands.drop i).all (fun x => !opdG x) then some (.normal, ⟨⟨91, [(1, .ptr 0 0), (4, .int .i64 j)]⟩, [], zeh m⟩) else some (.ret, ⟨⟨91, [(2, .bool false)]⟩, [], ⟨0, []⟩⟩) := by
 have hb := hB.o m.instrs[j] (by simp)
 refine zb8 ?_ (fun i h ih => ?_) <;> rw [zae]
 ·simp (maxSteps := 1000000) -implicitDefEqProofs only [↓reduceIte, ↓cond_true, ↓cond_false, sr1, sr2, kA, seval, d76, n76, zym, e76, List.drop_length, ix_sl zab hj, zaf]
 ·rw [ze7 h]
  simp (maxSteps := 1000000) -implicitDefEqProofs only [↓reduceIte, ↓cond_true, ↓cond_false, sr1, sr2, kA, seval, d76, n76, zym, e76, dlt_t h, wi_nat (show i < 2 ^ 62 by omega), ix_sl zab hj, ix_sl zab h, zaf, zbj, ih]
  rfl
def zwc (s : MInstr) : Bool := (decide ((4 : Int) < s.operands.length) || decide ((4 : Int) < s.effects.length)) || !s.operands.all (fun x => !opdG x)
theorem yajl (m : MMach) (hB : Bd m) : ∀ i, i ≤ m.instrs.length → lim (some []) 0 (blk 2 (om Tryz.prog ⟨76, none⟩ 0 (.loop (lpb Tryz.f76 1)) ⟨⟨91, [(1, .ptr 0 0), (4, .int .i64 i)]⟩, [], zeh m⟩)) = bif (m.instrs.drop i).all (fun x => !zwc x) then some (.normal, ⟨⟨91, []⟩, [], ⟨0, []⟩⟩) else some (.ret, ⟨⟨91, [(2, .bool false)]⟩, [], ⟨0, []⟩⟩) := by
 have hi := hB.i
 refine zb8 ?_ (fun i h ih => ?_) <;> rw [zae]
 ·simp (maxSteps := 1000000) -implicitDefEqProofs only [↓reduceIte, ↓cond_true, ↓cond_false, sr1, sr2, kA, seval, d76, n76, zym, e76, List.drop_length]
 ·have L := yajm m hB i h 0 (Nat.zero_le _)
  simp only [Int.natCast_zero, List.drop_zero] at L
  rw [ze7 h, zwc, yasy, cond_not]
  simp (maxSteps := 1000000) -implicitDefEqProofs only [↓reduceIte, ↓cond_true, ↓cond_false, sr1, sr2, kA, seval, d76, n76, zym, e76, dlt_t h, wi_nat (show i < 2 ^ 62 by omega), ix_sl zab h, zaf, L, ih]
def zu0 (m : MMach) : Bool := !(decide ((64 : Int) < m.regs.length) || decide ((16 : Int) < m.banks.length) || decide ((8 : Int) < m.units.length) || decide ((64 : Int) < m.instrs.length)) && (m.banks.all (fun x => !yaka x) && m.instrs.all (fun x => !zwc x))
theorem zzf (m : MMach) (hB : Bd m) : zaq Tryz.prog (om Tryz.prog) 76 [zac m] ⟨0, []⟩ = some (.bool (zu0 m), ⟨0, []⟩) := by
 have L := yajk m hB 0 (Nat.zero_le _)
 have L1 := yajl m hB 0 (Nat.zero_le _)
 simp only [Int.natCast_zero, List.drop_zero] at L L1
 rw [yaxr _ _ (by simp)]
 simp (maxSteps := 1000000) -implicitDefEqProofs only [↓reduceIte, ↓cond_true, ↓cond_false, sr1, sr2, kA, seval, d76, n76, zym, e76, zac, L, L1, zu0]
theorem zbg {a b : Int} : decide (a ≤ b) = !decide (b < a) := by by_cases h : a ≤ b <;> simp [h] <;> omega
theorem zxi (m : MMach) : zu0 m = zk2 m := by
 have h1 : (fun x => !yaka x) = yaev := by funext b; simp only [yaka, yaev, zbg]
 have h3 : (fun x => !opdG x) = opdF := by funext b; simp only [opdG, opdF, zbg]
 have h2 : (fun x => !zwc x) = zwb := by funext b; simp only [zwc, zwb, zbg, h3, Bool.not_or, Bool.not_not, Bool.and_assoc]
 simp only [zu0, zk2, h1, h2, zbg, Bool.not_or, Bool.and_assoc]
abbrev ckC (m : MMach) (ok : Bool) : List AV := [.str m.name, .int .i64 m.word, .int .i64 m.address, .rsl (slA m.pr m.regs) m.pr.cap 4 (m.regs.map zei), .rsl (slA m.pb m.banks) m.pb.cap 2 (m.banks.map zem), .rsl (slA m.pu m.units) m.pu.cap 2 (m.units.map unV), .rsl (slA m.pi m.instrs) m.pi.cap 9 (m.instrs.map zaf), .bool ok]
abbrev ckH (m : MMach) (ok : Bool) : Heap := ⟨1, [some (.cells 129 (ckC m ok))]⟩
theorem zqf (m : MMach) (ok : Bool) (l : List Bool) (hl : l.length < 2 ^ 62) : zaq Tryz.prog (om Tryz.prog) 85 [.ptr 0 0, .sl 1 0 l.length 1] ⟨2, [some (.cells 129 (ckC m ok)), some (.cells 4 (l.map AV.bool))]⟩ = some (.tup [], ⟨2, [some (.cells 129 (ckC m (ok && l.all id))), some (.cells 4 (l.map AV.bool))]⟩) :=
 yal1 _ _ _ _ _ _ _ _ _ l hl (fun ρ => rfl) rfl ok
theorem zds (m : MMach) (ok a : Bool) : zaq Tryz.prog (om Tryz.prog) 85 [.ptr 0 0, .sl 1 0 1 1] ⟨2, [some (.cells 129 (ckC m ok)), some (.cells 4 [.bool a])]⟩ = some (.tup [], ⟨2, [some (.cells 129 (ckC m (ok && a))), some (.cells 4 [.bool a])]⟩) := by
 have h := zqf m ok [a] (by simp)
 simpa only [List.length_cons, List.length_nil, Nat.zero_add, Nat.reduceAdd, List.map_cons, List.map_nil, List.all_cons, List.all_nil, id, Bool.and_true] using h
theorem zec (m : MMach) (ok a b : Bool) : zaq Tryz.prog (om Tryz.prog) 85 [.ptr 0 0, .sl 1 0 2 1] ⟨2, [some (.cells 129 (ckC m ok)), some (.cells 4 [.bool a, .bool b])]⟩ = some (.tup [], ⟨2, [some (.cells 129 (ckC m (ok && (a && b)))), some (.cells 4 [.bool a, .bool b])]⟩) := by
 have h := zqf m ok [a, b] (by simp)
 simpa only [List.length_cons, List.length_nil, Nat.zero_add, Nat.reduceAdd, List.map_cons, List.map_nil, List.all_cons, List.all_nil, id, Bool.and_true] using h
theorem zrv (m : MMach) (ok a b c : Bool) : zaq Tryz.prog (om Tryz.prog) 85 [.ptr 0 0, .sl 1 0 3 1] ⟨2, [some (.cells 129 (ckC m ok)), some (.cells 4 [.bool a, .bool b, .bool c])]⟩ = some (.tup [], ⟨2, [some (.cells 129 (ckC m (ok && (a && (b && c))))), some (.cells 4 [.bool a, .bool b, .bool c])]⟩) := by
 have h := zqf m ok [a, b, c] (by simp)
 simpa only [List.length_cons, List.length_nil, Nat.zero_add, Nat.reduceAdd, List.map_cons, List.map_nil, List.all_cons, List.all_nil, id, Bool.and_true] using h
theorem yaz4 (m : MMach) (ok a b c d : Bool) : zaq Tryz.prog (om Tryz.prog) 85 [.ptr 0 0, .sl 1 0 4 1] ⟨2, [some (.cells 129 (ckC m ok)), some (.cells 4 [.bool a, .bool b, .bool c, .bool d])]⟩ = some (.tup [], ⟨2, [some (.cells 129 (ckC m (ok && (a && (b && (c && d)))))), some (.cells 4 [.bool a, .bool b, .bool c, .bool d])]⟩) := by
 have h := zqf m ok [a, b, c, d] (by simp)
 simpa only [List.length_cons, List.length_nil, Nat.zero_add, Nat.reduceAdd, List.map_cons, List.map_nil, List.all_cons, List.all_nil, id, Bool.and_true] using h
theorem yaty (m : MMach) (ok a b c d e : Bool) : zaq Tryz.prog (om Tryz.prog) 85 [.ptr 0 0, .sl 1 0 5 1] ⟨2, [some (.cells 129 (ckC m ok)), some (.cells 4 [.bool a, .bool b, .bool c, .bool d, .bool e])]⟩ = some (.tup [], ⟨2, [some (.cells 129 (ckC m (ok && (a && (b && (c && (d && e))))))), some (.cells 4 [.bool a, .bool b, .bool c, .bool d, .bool e])]⟩) := by
 have h := zqf m ok [a, b, c, d, e] (by simp)
 simpa only [List.length_cons, List.length_nil, Nat.zero_add, Nat.reduceAdd, List.map_cons, List.map_nil, List.all_cons, List.all_nil, id, Bool.and_true] using h
theorem ya9r (m : MMach) (ok a b c d e f : Bool) : zaq Tryz.prog (om Tryz.prog) 85 [.ptr 0 0, .sl 1 0 6 1] ⟨2, [some (.cells 129 (ckC m ok)), some (.cells 4 [.bool a, .bool b, .bool c, .bool d, .bool e, .bool f])]⟩ = some (.tup [], ⟨2, [some (.cells 129 (ckC m (ok && (a && (b && (c && (d && (e && f)))))))), some (.cells 4 [.bool a, .bool b, .bool c, .bool d, .bool e, .bool f])]⟩) := by
 have h := zqf m ok [a, b, c, d, e, f] (by simp)
 simpa only [List.length_cons, List.length_nil, Nat.zero_add, Nat.reduceAdd, List.map_cons, List.map_nil, List.all_cons, List.all_nil, id, Bool.and_true] using h
theorem yalz (m : MMach) (ok a b c d e f g : Bool) : zaq Tryz.prog (om Tryz.prog) 85 [.ptr 0 0, .sl 1 0 7 1] ⟨2, [some (.cells 129 (ckC m ok)), some (.cells 4 [.bool a, .bool b, .bool c, .bool d, .bool e, .bool f, .bool g])]⟩ = some (.tup [], ⟨2, [some (.cells 129 (ckC m (ok && (a && (b && (c && (d && (e && (f && g))))))))), some (.cells 4 [.bool a, .bool b, .bool c, .bool d, .bool e, .bool f, .bool g])]⟩) := by
 have h := zqf m ok [a, b, c, d, e, f, g] (by simp)
 simpa only [List.length_cons, List.length_nil, Nat.zero_add, Nat.reduceAdd, List.map_cons, List.map_nil, List.all_cons, List.all_nil, id, Bool.and_true] using h
def zcg {α : Type} (nm : α → ByteArray) (q : α → Bool) : List α → List ByteArray → Bool
 | [], _ => true
 | u :: us, l => ((zbm (nm u) && !zn3 l (nm u)) && q u) && zcg nm q us (l ++ [nm u])
theorem zc7 {α : Type} {nm : α → ByteArray} {q : α → Bool} {us : List α} {l : List ByteArray} {i : Nat} (h : i < us.length) : zcg nm q (us.drop i) l = (((zbm (nm us[i]) && !zn3 l (nm us[i])) && q us[i]) && zcg nm q (us.drop (i + 1)) (l ++ [nm us[i]])) := by
 rw [List.drop_eq_getElem_cons h]; rfl
theorem zho {s : ByteArray} : zn3 [] s = false := rfl
abbrev ckN (m : MMach) (ok : Bool) (l : List ByteArray) : Heap := ⟨3, [some (.cells 129 (ckC m ok)), some (.cells 133 [.sl 2 0 l.length 1]), some (.cells 9 (l.map AV.str))]⟩
abbrev ck0 (m : MMach) (ok : Bool) : Heap := ⟨2, [some (.cells 129 (ckC m ok)), some (.cells 133 [.rsl none 0 0 []])]⟩
structure Sd (m : MMach) : Prop where
 r : ∀ x ∈ m.regs, x.name.size < 2 ^ 62
 b : ∀ x ∈ m.banks, x.name.size < 2 ^ 62
 u : ∀ x ∈ m.units, x.name.size < 2 ^ 62
 i : ∀ x ∈ m.instrs, x.name.size < 2 ^ 62
 o : ∀ s ∈ m.instrs, ∀ o ∈ s.operands, o.name.size < 2 ^ 62
def znr (u : MUn) : Bool := inR u.count 1 4
theorem yavf (m : MMach) (hB : Bd m) (hS : Sd m) : ∀ i, i ≤ m.units.length → ∀ ok l, l.length + (m.units.length - i) < 1000000 → lim (some []) 1 (blk 0 (om Tryz.prog ⟨90, none⟩ 1 (.loop (lpb Tryz.f90 0)) ⟨⟨35, [(0, .ptr 0 0), (2, .ptr 1 0), (19, .rsl (slA m.pu m.units) m.pu.cap 2 (m.units.map unV)), (20, .int .i64 m.units.length), (21, .int .i64 i)]⟩, [], ckN m ok l⟩)) = some (.normal, ⟨⟨35, []⟩, [], ckH m (ok && zcg MUn.name znr (m.units.drop i) l)⟩) := by
 have hu := hB.u
 refine zb8 (fun ok l hl => ?_) (fun i h ih ok l hl => ?_) <;> rw [zae]
 ·simp (maxSteps := 1000000) -implicitDefEqProofs only [↓reduceIte, ↓cond_true, ↓cond_false, sr1, sr2, kA, seval, d90, yafy, n90, e90, List.drop_length, zcg]
 ·have L := fun ok => ih ok (l ++ [m.units[i].name]) (by simp; omega)
  simp only [ckN, List.length_append, List.length_cons, List.length_nil, List.map_append, List.map_cons, List.map_nil, Nat.zero_add] at L
  simp (maxSteps := 1000000) -implicitDefEqProofs only [↓reduceIte, ↓cond_true, ↓cond_false, sr1, sr2, kA, seval, d90, yafy, n90, e90, dlt_t h, wi_nat (show i < 2 ^ 62 by omega), ix_sl zab h, unV, zec, zal, ziu l _ (hS.u _ (List.getElem_mem h)) (by omega), L, zc7 h, znr, Bool.and_assoc]
  trace_state
theorem yave (m : MMach) (hB : Bd m) (hS : Sd m) (ok : Bool) (i : Nat) (hi : i = 0) : lim (some []) 1 (blk 0 (om Tryz.prog ⟨90, none⟩ 1 (.loop (lpb Tryz.f90 0)) ⟨⟨35, [(0, .ptr 0 0), (2, .ptr 1 0), (19, .rsl (slA m.pu m.units) m.pu.cap 2 (m.units.map unV)), (20, .int .i64 m.units.length), (21, .int .i64 i)]⟩, [], ck0 m ok⟩)) = some (.normal, ⟨⟨35, []⟩, [], ckH m (ok && zcg MUn.name znr (m.units.drop i) [])⟩) := by
 have hu := hB.u
 by_cases h : i < m.units.length <;> rw [zae]
 ·have L := fun ok => yavf m hB hS (i + 1) (by omega) ok [m.units[i].name] (by simp; omega)
  simp only [ckN, List.length_cons, List.length_nil, List.map_cons, List.map_nil, Nat.zero_add] at L
  simp (maxSteps := 1000000) -implicitDefEqProofs only [↓reduceIte, ↓cond_true, ↓cond_false, sr1, sr2, kA, seval, d90, yafy, n90, e90, dlt_t h, wi_nat (show i < 2 ^ 62 by omega), ix_sl zab h, unV, zec, zal, zjy _ (hS.u _ (List.getElem_mem h)), L, zc7 h, znr, Bool.and_assoc, zho]
 ·have e : m.units.length = i := by omega
  simp (maxSteps := 1000000) -implicitDefEqProofs only [↓reduceIte, ↓cond_true, ↓cond_false, sr1, sr2, kA, seval, d90, yafy, n90, e90, e, List.drop_length, show m.units.drop i = [] by rw [← e, List.drop_length], zcg]
theorem yai8 (m : MMach) (hB : Bd m) (hS : Sd m) (ok : Bool) : zaq Tryz.prog (om Tryz.prog) 90 [.ptr 0 0] (ckH m ok) = some (.tup [], ckH m (ok && (decide (0 < (m.units.length : Int)) && zcg MUn.name znr m.units []))) := by
 have L := fun ok => yave m hB hS ok 0 rfl
 simp only [Int.natCast_zero, List.drop_zero] at L
 rw [yax5 _ _ (by simp)]
 simp (maxSteps := 1000000) -implicitDefEqProofs only [↓reduceIte, ↓cond_true, ↓cond_false, sr1, sr2, kA, seval, d90, yafy, n90, e90, zds, L, Bool.and_assoc]
def zuj (r root : MReg) : Bool := decide (root.of_ = -1) && (decide (r.width < root.width) && (inR root.width 1 64 && inR r.low 0 (IntKind.i64.wrap (root.width - r.width))))
def zrh (m : MMach) (r : MReg) : Bool := inR r.width 1 64 && bif decide (r.of_ = -1) then decide (r.low = 0) else bif inR r.of_ 0 ((m.regs.length : Int) - 1) then (match m.regs[r.of_.toNat]? with | some root => zuj r root | none => false) else false
theorem zd7 {α : Type} {l : List α} {n : Int} (h : inR n 0 ((l.length : Int) - 1) = true) : 0 ≤ n ∧ n.toNat < l.length := by
 simp only [inR, Bool.and_eq_true, decide_eq_true_eq] at h; omega
theorem zas {n : Nat} (h : n < 1000000) : IntKind.i64.wrap ((n : Int) - 1) = (n : Int) - 1 := zjp (by omega) (by omega)
theorem ya0w (m : MMach) (hB : Bd m) (hS : Sd m) : ∀ i, i ≤ m.regs.length → ∀ ok l, l.length + (m.regs.length - i) < 1000000 → lim (some []) 1 (blk 0 (om Tryz.prog ⟨88, none⟩ 1 (.loop (lpb Tryz.f88 0)) ⟨⟨92, [(0, .ptr 0 0), (2, .ptr 1 0), (20, .rsl (slA m.pr m.regs) m.pr.cap 4 (m.regs.map zei)), (21, .int .i64 m.regs.length), (22, .int .i64 i)]⟩, [], ckN m ok l⟩)) = some (.normal, ⟨⟨92, []⟩, [], ckH m (ok && zcg MReg.name (zrh m) (m.regs.drop i) l)⟩) := by
 have hu := hB.r
 refine zb8 (fun ok l hl => ?_) (fun i h ih ok l hl => ?_) <;> rw [zae]
 ·simp (maxSteps := 1000000) -implicitDefEqProofs only [↓reduceIte, ↓cond_true, ↓cond_false, sr1, sr2, kA, seval, d88, ztq, zl0, ztr, zts, n88, e88, List.drop_length, zcg]
 ·have L := fun ok => ih ok (l ++ [m.regs[i].name]) (by simp; omega)
  simp only [ckN, List.length_append, List.length_cons, List.length_nil, List.map_append, List.map_cons, List.map_nil, Nat.zero_add] at L
  have hq := ziu l _ (hS.r _ (List.getElem_mem h)) (by omega)
  rw [zc7 h]
  cases hA : decide (m.regs[i].of_ = -1) with
  | true =>
   simp (maxSteps := 1000000) -implicitDefEqProofs only [↓reduceIte, ↓cond_true, ↓cond_false, sr1, sr2, kA, seval, d88, ztq, zl0, ztr, zts, n88, e88, dlt_t h, wi_nat (show i < 2 ^ 62 by omega), ix_sl zab h, zei, zec, zds, zal, hq, L, zrh, Bool.and_assoc, hA]
  | false =>
   cases hI : inR m.regs[i].of_ 0 ((m.regs.length : Int) - 1) with
   | false =>
    simp (maxSteps := 1000000) -implicitDefEqProofs only [↓reduceIte, ↓cond_true, ↓cond_false, sr1, sr2, kA, seval, d88, ztq, zl0, ztr, zts, n88, e88, dlt_t h, wi_nat (show i < 2 ^ 62 by omega), ix_sl zab h, zei, zec, zds, zal, hq, L, zrh, Bool.and_assoc, hA, zas hu, hI]
   | true =>
    obtain ⟨h0, h1⟩ := zd7 hI
    simp (maxSteps := 1000000) -implicitDefEqProofs only [↓reduceIte, ↓cond_true, ↓cond_false, sr1, sr2, kA, seval, d88, ztq, zl0, ztr, zts, n88, e88, dlt_t h, wi_nat (show i < 2 ^ 62 by omega), ix_sl zab h, ix_z zab h0 h1, zei, zec, yaz4, zal, hq, L, zrh, Bool.and_assoc, hA, zas hu, hI, List.getElem?_eq_getElem h1, zuj]
theorem ya0v (m : MMach) (hB : Bd m) (hS : Sd m) (ok : Bool) (i : Nat) (hi : i = 0) : lim (some []) 1 (blk 0 (om Tryz.prog ⟨88, none⟩ 1 (.loop (lpb Tryz.f88 0)) ⟨⟨92, [(0, .ptr 0 0), (2, .ptr 1 0), (20, .rsl (slA m.pr m.regs) m.pr.cap 4 (m.regs.map zei)), (21, .int .i64 m.regs.length), (22, .int .i64 i)]⟩, [], ck0 m ok⟩)) = some (.normal, ⟨⟨92, []⟩, [], ckH m (ok && zcg MReg.name (zrh m) (m.regs.drop i) [])⟩) := by
 have hu := hB.r
 by_cases h : i < m.regs.length <;> rw [zae]
 ·have L := fun ok => ya0w m hB hS (i + 1) (by omega) ok [m.regs[i].name] (by simp; omega)
  simp only [ckN, List.length_cons, List.length_nil, List.map_cons, List.map_nil, Nat.zero_add] at L
  have hq := zjy _ (hS.r _ (List.getElem_mem h))
  rw [zc7 h]
  cases hA : decide (m.regs[i].of_ = -1) with
  | true =>
   simp (maxSteps := 1000000) -implicitDefEqProofs only [↓reduceIte, ↓cond_true, ↓cond_false, sr1, sr2, kA, seval, d88, ztq, zl0, ztr, zts, n88, e88, dlt_t h, wi_nat (show i < 2 ^ 62 by omega), ix_sl zab h, zei, zec, zds, zal, hq, L, zrh, Bool.and_assoc, hA, zho]
  | false =>
   cases hI : inR m.regs[i].of_ 0 ((m.regs.length : Int) - 1) with
   | false =>
    simp (maxSteps := 1000000) -implicitDefEqProofs only [↓reduceIte, ↓cond_true, ↓cond_false, sr1, sr2, kA, seval, d88, ztq, zl0, ztr, zts, n88, e88, dlt_t h, wi_nat (show i < 2 ^ 62 by omega), ix_sl zab h, zei, zec, zds, zal, hq, L, zrh, Bool.and_assoc, hA, zas hu, hI, zho]
   | true =>
    obtain ⟨h0, h1⟩ := zd7 hI
    simp (maxSteps := 1000000) -implicitDefEqProofs only [↓reduceIte, ↓cond_true, ↓cond_false, sr1, sr2, kA, seval, d88, ztq, zl0, ztr, zts, n88, e88, dlt_t h, wi_nat (show i < 2 ^ 62 by omega), ix_sl zab h, ix_z zab h0 h1, zei, zec, yaz4, zal, hq, L, zrh, Bool.and_assoc, hA, zas hu, hI, List.getElem?_eq_getElem h1, zuj, zho]
 ·have e : m.regs.length = i := by omega
  simp (maxSteps := 1000000) -implicitDefEqProofs only [↓reduceIte, ↓cond_true, ↓cond_false, sr1, sr2, kA, seval, d88, ztq, zl0, ztr, zts, n88, e88, e, List.drop_length, show m.regs.drop i = [] by rw [← e, List.drop_length], zcg]
def zhx (m : MMach) : Bool := decide (0 < (m.regs.length : Int)) && zcg MReg.name (zrh m) m.regs []
theorem yamq (m : MMach) (hB : Bd m) (hS : Sd m) (ok : Bool) : zaq Tryz.prog (om Tryz.prog) 88 [.ptr 0 0] (ckH m ok) = some (.tup [], ckH m (ok && zhx m)) := by
 have L := fun ok => ya0v m hB hS ok 0 rfl
 simp only [Int.natCast_zero, List.drop_zero] at L
 rw [yax3 _ _ (by simp)]
 simp (maxSteps := 1000000) -implicitDefEqProofs only [↓reduceIte, ↓cond_true, ↓cond_false, sr1, sr2, kA, seval, d88, ztq, zl0, ztr, zts, n88, e88, zds, L, Bool.and_assoc, zhx]
def adrS (a : Option Addr) (cap lo s : Nat) : Option Addr := if cap = lo then a else a.map (·.add (lo * s))
theorem ya1j {α : Type} {f : α → AV} {P : Program} {H : Heap} {a : Option Addr} {cap s i : Nat} {l : List α} (h : i ≤ l.length) : slcK P H s (.rsl a cap s (l.map f)) none (some (.int .i64 (i : Int))) = some (.rsl (adrS a cap 0 s) cap s ((l.take i).map f)) := by
 simp [slcK, zcu, h, adrS, List.map_take]
theorem yamd {α : Type} {f : α → AV} {a : Option Addr} {cap lo s i : Nat} {l : List α} (h : okS a (l.map f) = true) : okS (adrS a cap lo s) ((l.take i).map f) = true := by
 cases a with
 | none =>
  cases l with
  | nil => simp [okS]
  | cons x l => simp [okS] at h
 | some a => unfold adrS; split <;> rfl
def hasI (l : List Int) (s : Int) : Bool := l.any fun x => decide (s = x)
def idxI (s : Int) : List Int → Nat → Int
 | [], _ => -1
 | x :: l, i => bif decide (s = x) then (i : Int) else idxI s l (i + 1)
theorem yaga {s : Int} {l : List Int} {i : Nat} (h : i < l.length) : idxI s (l.drop i) i = bif decide (s = l[i]) then (i : Int) else idxI s (l.drop (i + 1)) (i + 1) := by
 rw [List.drop_eq_getElem_cons h]; rfl
theorem yaan {s : Int} : ∀ {l : List Int} {i : Nat}, decide (0 ≤ idxI s l i) = hasI l s
 | [], i => rfl
 | x :: l, i => by
  simp only [idxI, hasI, List.any_cons]
  by_cases e : s = x
  ·simp only [e, decide_true, cond_true, Bool.true_or]; exact decide_eq_true (by omega)
  ·simp only [e, decide_false, cond_false, Bool.false_or]; exact yaan
theorem yald (a : Option Addr) (c : Nat) (l : List Int) (s : Int) (ha : okS a (l.map zdt) = true) (hl : l.length < 2 ^ 62) : ∀ i, i ≤ l.length → nxt (lim (some []) 0 (blk 0 (om Tryz.prog ⟨158, none⟩ 0 (.loop (lpb Tryz.f158 0)) ⟨⟨19, [(0, .rsl a c 1 (l.map zdt)), (1, .int .i64 s), (7, .int .i64 l.length), (8, .int .i64 i)]⟩, [], ⟨0, []⟩⟩))) (Ox Tryz.prog ⟨158, none⟩ 0 (.seq (za9 Tryz.f158 7) .ret)) = some (.ret, ⟨⟨19, [(4, .int .i64 (idxI s (l.drop i) i))]⟩, [], ⟨0, []⟩⟩) := by
 refine zb8 ?_ (fun i h ih => ?_) <;> rw [zae]
 ·simp (maxSteps := 1000000) -implicitDefEqProofs only [↓reduceIte, ↓cond_true, ↓cond_false, sr1, sr2, kA, seval, d158, n158, e158, List.drop_length, idxI]
 ·simp (maxSteps := 1000000) -implicitDefEqProofs only [↓reduceIte, ↓cond_true, ↓cond_false, sr1, sr2, kA, seval, d158, n158, e158, dlt_t h, wi_nat (show i < 2 ^ 62 by omega), ix_sl ha h, zdt, ih, yaga h]
theorem yacx (a : Option Addr) (c : Nat) (l : List Int) (s : Int) (ha : okS a (l.map zdt) = true) (hl : l.length < 2 ^ 62) : zaq Tryz.prog (om Tryz.prog) 158 [.rsl a c 1 (l.map zdt), .int .i64 s] ⟨0, []⟩ = some (.int .i64 (idxI s l 0), ⟨0, []⟩) := by
 have L := yald a c l s ha hl 0 (Nat.zero_le _)
 simp only [Int.natCast_zero, List.drop_zero] at L
 rw [yar1 _ _ (by simp)]
 simp (maxSteps := 1000000) -implicitDefEqProofs only [↓reduceIte, ↓cond_true, ↓cond_false, sr1, sr2, kA, seval, d158, n158, e158, L]
theorem zlr (a : Option Addr) (c : Nat) (l : List Int) (s : Int) (ha : okS a (l.map zdt) = true) (hl : l.length < 2 ^ 62) : zaq Tryz.prog (om Tryz.prog) 135 [.rsl a c 1 (l.map zdt), .int .i64 s] ⟨0, []⟩ = some (.bool (hasI l s), ⟨0, []⟩) := by
 rw [yarn _ _ (by simp)]
 simp (maxSteps := 1000000) -implicitDefEqProofs only [↓reduceIte, ↓cond_true, ↓cond_false, sr1, sr2, kA, seval, d135, n135, yacx a c l s ha hl, yaan]
def ze3 (m : MMach) (r : Int) : Int := match m.regs[r.toNat]? with | some x => x.width | none => 0
def zvb (m : MMach) (l : List Int) (k : Nat) : Bool := inR (l.getD k 0) 0 ((m.regs.length : Int) - 1) && !hasI (l.take k) (l.getD k 0) && decide (ze3 m (l.getD k 0) = ze3 m (l.getD 0 0))
theorem zcq {l : List Int} {i : Nat} (h : i < l.length) : l.getD i 0 = l[i] := by simp [h]
theorem zcf {m : MMach} {r : Int} (h : r.toNat < m.regs.length) : ze3 m r = m.regs[r.toNat].width := by
 unfold ze3; rw [List.getElem?_eq_getElem h]
abbrev bkH (m : MMach) (ok : Bool) (l : List ByteArray) (b : MBank) : Heap := ⟨4, [some (.cells 129 (ckC m ok)), some (.cells 133 [.sl 3 0 l.length 1]), some (.cells 109 [.str b.name, .rsl (slA b.p b.regs) b.p.cap 1 (b.regs.map zdt)]), some (.cells 9 (l.map AV.str))]⟩
theorem zzs (m : MMach) (hB : Bd m) (b : MBank) (hb : b.regs.length < 1000000) (l : List ByteArray) (n12 n13 : Int) (a11 : Option Addr) (c11 : Nat) (v11 : List AV) : ∀ i, i ≤ b.regs.length → ∀ ok, (ok = true → ∀ x ∈ b.regs.take i, inR x 0 ((m.regs.length : Int) - 1) = true) → lim (some [0, 2, 11, 12, 13]) 1 (blk 2 (om Tryz.prog ⟨89, none⟩ 1 (.loop (lpb Tryz.f89 1)) ⟨⟨85, [(0, .ptr 0 0), (2, .ptr 1 0), (4, .ptr 2 0), (11, .rsl a11 c11 2 v11), (12, .int .i64 n12), (13, .int .i64 n13), (28, .rsl (slA b.p b.regs) b.p.cap 1 (b.regs.map zdt)), (29, .int .i64 b.regs.length), (30, .int .i64 i)]⟩, [], bkH m ok l b⟩)) = some (.normal, ⟨⟨85, [(0, .ptr 0 0), (2, .ptr 1 0), (11, .rsl a11 c11 2 v11), (12, .int .i64 n12), (13, .int .i64 n13)]⟩, [], ckN m (ok && zb9 (zvb m b.regs) i b.regs.length) l⟩) := by
 refine zb8 (fun ok hk => ?_) (fun i h ih ok hk => ?_) <;> rw [zae]
 ·simp (maxSteps := 1000000) -implicitDefEqProofs only [↓reduceIte, ↓cond_true, ↓cond_false, sr1, sr2, kA, seval, d89, ztt, ztu, zl1, n89, e89, zba]
 ·have hq := fun r => zlr (adrS (slA b.p b.regs) b.p.cap 0 1) b.p.cap (b.regs.take i) r (yamd zab) (by simp; omega)
  have hs := fun (P : Program) (H : Heap) => ya1j (f := zdt) (P := P) (H := H) (a := slA b.p b.regs) (cap := b.p.cap) (s := 1) (Nat.le_of_lt h)
  rw [zbr h, zvb, zcq h]
  cases hI : inR b.regs[i] 0 ((m.regs.length : Int) - 1) with
  | false =>
   have L := ih false (by simp)
   simp (maxSteps := 1000000) -implicitDefEqProofs only [↓reduceIte, ↓cond_true, ↓cond_false, sr1, sr2, kA, seval, d89, ztt, ztu, zl1, n89, e89, dlt_t h, wi_nat (show i < 2 ^ 62 by omega), ix_sl zab h, zdt, zec, zds, zal, zas hB.r, hs, hq, hI, L]
  | true =>
   cases hO : (ok && !hasI (b.regs.take i) b.regs[i]) with
   | false =>
    have L := ih false (by simp)
    have hO2 : ∀ x, (ok && (!hasI (b.regs.take i) b.regs[i] && x)) = false := fun x => by rw [← Bool.and_assoc, hO]; rfl
    simp (maxSteps := 1000000) -implicitDefEqProofs only [↓reduceIte, ↓cond_true, ↓cond_false, sr1, sr2, kA, seval, d89, ztt, ztu, zl1, n89, e89, dlt_t h, wi_nat (show i < 2 ^ 62 by omega), ix_sl zab h, zdt, zec, zds, zal, zas hB.r, hs, hq, hI, hO, L, hO2, Bool.and_assoc]
   | true =>
    obtain ⟨rfl, hO1⟩ : ok = true ∧ hasI (b.regs.take i) b.regs[i] = false := by simpa using hO
    have hz : 0 < b.regs.length := by omega
    have hall : ∀ x ∈ b.regs.take (i + 1), inR x 0 ((m.regs.length : Int) - 1) = true := by
     intro x hx
     rw [List.take_succ_eq_append_getElem h, List.mem_append, List.mem_singleton] at hx
     rcases hx with hx | rfl
     ·exact hk rfl x hx
     ·exact hI
    have hI0 : inR b.regs[0] 0 ((m.regs.length : Int) - 1) = true := hall _ (List.mem_iff_getElem.2 ⟨0, by simp; omega, by simp⟩)
    have L := fun ok' => ih ok' fun _ => hall
    obtain ⟨h0, h1⟩ := zd7 hI
    obtain ⟨h2, h3⟩ := zd7 hI0
    have z0 := ix_sl (k := .i64) (f := zdt) (sz := 1) (c := b.p.cap) (zab (p := b.p) (f := zdt)) hz
    simp only [Int.natCast_zero] at z0
    simp (maxSteps := 1000000) -implicitDefEqProofs only [↓reduceIte, ↓cond_true, ↓cond_false, sr1, sr2, kA, seval, d89, ztt, ztu, zl1, n89, e89, dlt_t h, wi_nat (show i < 2 ^ 62 by omega), ix_sl zab h, z0, ix_z zab h0 h1, ix_z zab h2 h3, zdt, zei, zec, zds, zal, zas hB.r, hs, hq, hI, hO1, L, Bool.and_assoc, zcf h1, zcq hz, zcf h3]
def zpi (m : MMach) (b : MBank) : Bool := decide (0 < (b.regs.length : Int)) && zb9 (zvb m b.regs) 0 b.regs.length
theorem yaq2 (m : MMach) (hB : Bd m) (hS : Sd m) : ∀ i, i ≤ m.banks.length → ∀ ok l, l.length + (m.banks.length - i) < 1000000 → lim (some []) 1 (blk 0 (om Tryz.prog ⟨89, none⟩ 1 (.loop (lpb Tryz.f89 0)) ⟨⟨85, [(0, .ptr 0 0), (2, .ptr 1 0), (11, .rsl (slA m.pb m.banks) m.pb.cap 2 (m.banks.map zem)), (12, .int .i64 m.banks.length), (13, .int .i64 i)]⟩, [], ckN m ok l⟩)) = some (.normal, ⟨⟨85, []⟩, [], ckH m (ok && zcg MBank.name (zpi m) (m.banks.drop i) l)⟩) := by
 have hu := hB.b
 refine zb8 (fun ok l hl => ?_) (fun i h ih ok l hl => ?_) <;> rw [zae]
 ·simp (maxSteps := 1000000) -implicitDefEqProofs only [↓reduceIte, ↓cond_true, ↓cond_false, sr1, sr2, kA, seval, d89, ztt, ztu, zl1, n89, e89, List.drop_length, zcg]
 ·have L := fun ok => ih ok (l ++ [m.banks[i].name]) (by simp; omega)
  simp only [ckN, List.length_append, List.length_cons, List.length_nil, List.map_append, List.map_cons, List.map_nil, Nat.zero_add] at L
  have hq := ziu l _ (hS.b _ (List.getElem_mem h)) (by omega)
  have L1 := fun ok => zzs m hB m.banks[i] (hB.br _ (List.getElem_mem h)) (l ++ [m.banks[i].name]) m.banks.length i (slA m.pb m.banks) m.pb.cap (m.banks.map zem) 0 (Nat.zero_le _) ok (by simp)
  simp only [bkH, ckN, Int.natCast_zero, List.length_append, List.length_cons, List.length_nil, List.map_append, List.map_cons, List.map_nil, Nat.zero_add] at L1
  rw [zc7 h]
  simp (maxSteps := 1000000) -implicitDefEqProofs only [↓reduceIte, ↓cond_true, ↓cond_false, sr1, sr2, kA, seval, d89, ztt, ztu, zl1, n89, e89, dlt_t h, wi_nat (show i < 2 ^ 62 by omega), ix_sl zab h, zem, zec, hq, L, L1, zpi, Bool.and_assoc]
theorem yaq1 (m : MMach) (hB : Bd m) (hS : Sd m) (ok : Bool) (i : Nat) (hi : i = 0) : lim (some []) 1 (blk 0 (om Tryz.prog ⟨89, none⟩ 1 (.loop (lpb Tryz.f89 0)) ⟨⟨85, [(0, .ptr 0 0), (2, .ptr 1 0), (11, .rsl (slA m.pb m.banks) m.pb.cap 2 (m.banks.map zem)), (12, .int .i64 m.banks.length), (13, .int .i64 i)]⟩, [], ck0 m ok⟩)) = some (.normal, ⟨⟨85, []⟩, [], ckH m (ok && zcg MBank.name (zpi m) (m.banks.drop i) [])⟩) := by
 have hu := hB.b
 by_cases h : i < m.banks.length <;> rw [zae]
 ·have L := fun ok => yaq2 m hB hS (i + 1) (by omega) ok [m.banks[i].name] (by simp; omega)
  simp only [ckN, List.length_cons, List.length_nil, List.map_cons, List.map_nil, Nat.zero_add] at L
  have hq := zjy _ (hS.b _ (List.getElem_mem h))
  have L1 := fun ok => zzs m hB m.banks[i] (hB.br _ (List.getElem_mem h)) [m.banks[i].name] m.banks.length i (slA m.pb m.banks) m.pb.cap (m.banks.map zem) 0 (Nat.zero_le _) ok (by simp)
  simp only [bkH, ckN, Int.natCast_zero, List.length_cons, List.length_nil, List.map_cons, List.map_nil, Nat.zero_add] at L1
  rw [zc7 h]
  simp (maxSteps := 1000000) -implicitDefEqProofs only [↓reduceIte, ↓cond_true, ↓cond_false, sr1, sr2, kA, seval, d89, ztt, ztu, zl1, n89, e89, dlt_t h, wi_nat (show i < 2 ^ 62 by omega), ix_sl zab h, zem, zec, hq, L, L1, zpi, Bool.and_assoc, zho]
 ·have e : m.banks.length = i := by omega
  simp (maxSteps := 1000000) -implicitDefEqProofs only [↓reduceIte, ↓cond_true, ↓cond_false, sr1, sr2, kA, seval, d89, ztt, ztu, zl1, n89, e89, e, List.drop_length, show m.banks.drop i = [] by rw [← e, List.drop_length], zcg]
def zev (m : MMach) : Bool := zcg MBank.name (zpi m) m.banks []
theorem yaey (m : MMach) (hB : Bd m) (hS : Sd m) (ok : Bool) : zaq Tryz.prog (om Tryz.prog) 89 [.ptr 0 0] (ckH m ok) = some (.tup [], ckH m (ok && zev m)) := by
 have L := fun ok => yaq1 m hB hS ok 0 rfl
 simp only [Int.natCast_zero, List.drop_zero] at L
 rw [yax4 _ _ (by simp)]
 simp (maxSteps := 1000000) -implicitDefEqProofs only [↓reduceIte, ↓cond_true, ↓cond_false, sr1, sr2, kA, seval, d89, ztt, ztu, zl1, n89, e89, L, Bool.and_assoc, zev]
def zzo (a b : Int) : Int := IntKind.u64.wrap ((BitVec.ofInt 64 a &&& BitVec.ofInt 64 b).toNat)
def orI (a b : Int) : Int := IntKind.u64.wrap ((BitVec.ofInt 64 a ||| BitVec.ofInt 64 b).toNat)
theorem zm6 {a b : Int} : zc6 .and .u64 a b = some (.int .u64 (zzo a b)) := rfl
theorem yahj {a b : Int} : zc6 .or .u64 a b = some (.int .u64 (orI a b)) := rfl
def zqt (p : MPiece) : Int := IntKind.u64.wrap (zcb p.len * 2 ^ min p.at_.toNat 64)
theorem yamz {p : MPiece} (h : 0 ≤ p.at_) : zdp .shl .u64 (zcb p.len) p.at_ = some (.int .u64 (zqt p)) := by
 unfold zdp; rw [if_neg (by omega)]; rfl
def zej (w : Int) (p : MPiece) : Bool := inR p.len 1 (IntKind.i64.wrap (8 * w)) && (decide (0 ≤ p.at_) && decide (p.at_ ≤ IntKind.i64.wrap (IntKind.i64.wrap (8 * w) - p.len)))
def zlk (w : Int) : List MPiece → Bool → Int → Bool × Bool × Int
 | [], ok, t => (false, ok, t)
 | p :: l, ok, t => bif ok && zej w p then zlk w l (decide (zzo t (zqt p) = 0)) (orI t (zqt p)) else (true, false, 0)
theorem yahm {w : Int} {l : List MPiece} {i : Nat} {ok : Bool} {t : Int} (h : i < l.length) : zlk w (l.drop i) ok t = bif ok && zej w l[i] then zlk w (l.drop (i + 1)) (decide (zzo t (zqt l[i]) = 0)) (orI t (zqt l[i])) else (true, false, 0) := by
 rw [List.drop_eq_getElem_cons h]; rfl
theorem yamj {w : Int} {l : List MPiece} {ok : Bool} {t : Int} : zlk w (l.drop l.length) ok t = (false, ok, t) := by rw [List.drop_length]; rfl
abbrev zi4 (s : MInstr) : List AV := [.str s.name, .int .u64 s.mask, .int .u64 s.mat, .rsl (slA s.po s.operands) s.po.cap 6 (s.operands.map zbj), .rsl (slA s.pe s.effects) s.pe.cap 21 (s.effects.map zu4), .int .i64 s.unit, .int .i64 s.busy, .int .i64 s.latency, .int .i64 s.slots]
abbrev ya0k (o : MOpd) : List AV := [.str o.name, .int .u8 o.kind, .int .i64 o.bank, .int .i64 o.scale, .rsl (slA o.p o.pieces) o.p.cap 2 (o.pieces.map zgh), .int .i64 o.tied]
abbrev opH (m : MMach) (ok : Bool) (s : MInstr) (o : MOpd) : Heap := ⟨3, [some (.cells 129 (ckC m ok)), some (.cells 113 (zi4 s)), some (.cells 116 (ya0k o))]⟩
theorem yahg (m : MMach) (s : MInstr) (o : MOpd) (ho : o.pieces.length < 1000000) (n : Int) : ∀ i, i ≤ o.pieces.length → ∀ ok t, lim (some [0, 2, 4, 6, 7]) 1 (blk 0 (om Tryz.prog ⟨137, none⟩ 1 (.loop (lpb Tryz.f137 0)) ⟨⟨198, [(0, .ptr 0 0), (2, .int .i64 n), (4, .ptr 1 0), (6, .int .u64 t), (7, .ptr 2 0), (20, .rsl (slA o.p o.pieces) o.p.cap 2 (o.pieces.map zgh)), (21, .int .i64 o.pieces.length), (22, .int .i64 i)]⟩, [], opH m ok s o⟩)) = bif (zlk m.word (o.pieces.drop i) ok t).1 then some (.ret, ⟨⟨198, [(6, .int .u64 0)]⟩, [], ckH m false⟩) else some (.normal, ⟨⟨198, [(0, .ptr 0 0), (2, .int .i64 n), (4, .ptr 1 0), (6, .int .u64 (zlk m.word (o.pieces.drop i) ok t).2.2), (7, .ptr 2 0)]⟩, [], opH m (zlk m.word (o.pieces.drop i) ok t).2.1 s o⟩) := by
 refine zb8 (fun ok t => ?_) (fun i h ih ok t => ?_) <;> rw [zae]
 ·simp (maxSteps := 1000000) -implicitDefEqProofs only [↓reduceIte, ↓cond_true, ↓cond_false, sr1, sr2, kA, seval, zz5, zf8, zf9, zdy, zdz, zd0, zd1, n137, zge, zgf, zz8, yamj]
 ·rw [yahm h]
  cases hO : (ok && zej m.word o.pieces[i]) with
  | false =>
   have hO2 := hO
   unfold zej at hO2
   simp (maxSteps := 1000000) -implicitDefEqProofs only [↓reduceIte, ↓cond_true, ↓cond_false, sr1, sr2, kA, seval, zz5, zf8, zf9, zdy, zdz, zd0, zd1, n137, zge, zgf, zz8, dlt_t h, wi_nat (show i < 2 ^ 62 by omega), ix_sl zab h, zgh, zrv, zds, zal, hO2]
  | true =>
   obtain ⟨rfl, hw⟩ : ok = true ∧ zej m.word o.pieces[i] = true := by simpa using hO
   have hw2 := hw
   unfold zej at hw2
   have h0 : 0 ≤ o.pieces[i].at_ := by simp only [Bool.and_eq_true, decide_eq_true_eq] at hw2; exact hw2.2.1
   simp (maxSteps := 1000000) -implicitDefEqProofs only [↓reduceIte, ↓cond_true, ↓cond_false, sr1, sr2, kA, seval, zz5, zf8, zf9, zdy, zdz, zd0, zd1, n137, zge, zgf, zz8, dlt_t h, wi_nat (show i < 2 ^ 62 by omega), ix_sl zab h, zgh, zrv, zds, zal, zhq, hw2, yamz h0, zm6, yahj, ih]
   trace_state
def shl1 (n : Int) : Int := IntKind.i64.wrap (1 * 2 ^ min n.toNat 64)
theorem ya54 {n : Int} (h : 0 ≤ n) : zdp .shl .i64 1 n = some (.int .i64 (shl1 n)) := by
 unfold zdp; rw [if_neg (by omega)]; rfl
def zph (m : MMach) (b : Int) : Int := match m.banks[b.toNat]? with | some x => (x.regs.length : Int) | none => 0
def yady (s : MInstr) (o : MOpd) : Bool := match s.operands[o.tied.toNat]? with | some t => decide (t.kind = 1) && (decide (t.bank = o.bank) && decide (t.tied = -1)) | none => false
def yag9 (m : MMach) (o : MOpd) (ok : Bool) : Bool := ok && (inR o.bank 0 ((m.banks.length : Int) - 1) && decide (o.scale = 0))
def zqk (m : MMach) (o : MOpd) : Bool := decide (0 < zdx o) && (decide (6 < zdx o) || decide (zph m o.bank ≤ shl1 (zdx o)))
def zmk (s : MInstr) (i : Nat) (o : MOpd) : Bool := inR o.tied 0 (IntKind.i64.wrap ((i : Int) - 1)) && decide ((o.pieces.length : Int) = 0)
def zql (m : MMach) (o : MOpd) : Bool := decide (o.bank = 0) && (decide (o.tied = -1) && (inR o.scale 0 3 && (decide (0 < zdx o) && decide (IntKind.i64.wrap (zdx o + o.scale) ≤ m.address))))
def zk0 (m : MMach) (s : MInstr) (i : Nat) (o : MOpd) (ok : Bool) (t : Int) : Bool × Int :=
 bif decide (o.kind = 1) then (bif yag9 m o ok then (bif decide (o.tied = -1) then (zqk m o, t) else bif zmk s i o then (yady s o, t) else (false, t)) else (false, 0))
 else bif decide (o.kind = 2) || (decide (o.kind = 3) || decide (o.kind = 4)) then (ok && zql m o, t) else (false, t)
theorem zlb {α : Type} {l : List α} {n : Nat} (h : n < l.length) : l[n]? = some l[n] := List.getElem?_eq_getElem h
noncomputable abbrev yaha : St → Rx := Ox Tryz.prog ⟨137, none⟩ 1 (.seq (.seq (za9 Tryz.f137 12) (.block 2 (.seq (za9 Tryz.f137 14) (.cond (.tmp 80) (.seq (za9 Tryz.f137 15) (.seq (.seq (za9 Tryz.f137 16) (.cond (.tmp 102) (.seq (za9 Tryz.f137 17) .ret) .skip)) (.seq (.seq (za9 Tryz.f137 18) (.cond (.tmp 105) (.seq (za9 Tryz.f137 19) (.seq (za9 Tryz.f137 20) (.exit 2))) .skip)) (.seq (za9 Tryz.f137 21) (.seq (za9 Tryz.f137 22) (.cond (.tmp 146) (.seq (za9 Tryz.f137 23) (za9 Tryz.f137 24)) .skip)))))) (.seq (.seq (za9 Tryz.f137 25) (.cond (.tmp 167) .skip (.seq (za9 Tryz.f137 26) (.cond (.tmp 167) .skip (za9 Tryz.f137 27))))) (.cond (.tmp 167) (.seq (za9 Tryz.f137 28) (za9 Tryz.f137 29)) (za9 Tryz.f137 13))))))) (.seq (za9 Tryz.f137 30) .ret))
set_option maxHeartbeats 2000000 in
theorem zwx (m : MMach) (hB : Bd m) (s : MInstr) (o : MOpd) (ho : o.pieces.length < 1000000) (i : Nat) (hi : i ≤ s.operands.length) (hi2 : i < 1000000) (ok : Bool) (t : Int) (hf : ok = true → 0 ≤ zdx o) :
  fin Tryz.prog 1 [.tmp 6] (yaha ⟨⟨198, [(0, .ptr 0 0), (2, .int .i64 i), (4, .ptr 1 0), (6, .int .u64 t), (7, .ptr 2 0)]⟩, [], opH m ok s o⟩) = some (.int .u64 (zk0 m s i o ok t).2, ckH m (zk0 m s i o ok t).1) := by
 have fr := yafr o (by omega)
 simp only [zbj] at fr
 have hb := zas hB.b
 unfold zk0
 cases h1 : decide (o.kind = 1) with
 | true =>
  cases h2 : yag9 m o ok with
  | false =>
   unfold yag9 at h2
   simp (maxSteps := 1000000) -implicitDefEqProofs only [↓reduceIte, ↓cond_true, ↓cond_false, sr1, sr2, kA, seval, zz5, zf8, zf9, zdy, zdz, zd0, zd1, n137, zge, zgf, zz8, h1, h2, zec, zal, hb]
  | true =>
   obtain ⟨rfl, h3, h4⟩ : ok = true ∧ inR o.bank 0 ((m.banks.length : Int) - 1) = true ∧ decide (o.scale = 0) = true := by simpa [yag9] using h2
   obtain ⟨b0, b1⟩ := zd7 h3
   cases h5 : decide (o.tied = -1) with
   | true =>
    have e : zph m o.bank = (m.banks[o.bank.toNat].regs.length : Int) := by unfold zph; rw [zlb b1]
    simp (maxSteps := 1000000) -implicitDefEqProofs only [↓reduceIte, ↓cond_true, ↓cond_false, sr1, sr2, kA, seval, zz5, zf8, zf9, zdy, zdz, zd0, zd1, n137, zge, zgf, zz8, h1, h3, h4, h5, zec, zal, hb, fr, ya54 (hf rfl), ix_z zab b0 b1, zem, zqk, e]
   | false =>
    cases h6 : inR o.tied 0 (IntKind.i64.wrap ((i : Int) - 1)) with
    | false => simp (maxSteps := 1000000) -implicitDefEqProofs only [↓reduceIte, ↓cond_true, ↓cond_false, sr1, sr2, kA, seval, zz5, zf8, zf9, zdy, zdz, zd0, zd1, n137, zge, zgf, zz8, h1, h3, h4, h5, h6, zec, zal, hb, zmk]
    | true =>
     cases h7 : decide ((o.pieces.length : Int) = 0) with
     | false => simp (maxSteps := 1000000) -implicitDefEqProofs only [↓reduceIte, ↓cond_true, ↓cond_false, sr1, sr2, kA, seval, zz5, zf8, zf9, zdy, zdz, zd0, zd1, n137, zge, zgf, zz8, h1, h3, h4, h5, h6, h7, zec, zal, hb, zmk]
     | true =>
      have hx : 0 ≤ o.tied ∧ o.tied.toNat < s.operands.length := by
       rw [zjp (by omega) (by omega)] at h6
       simp only [inR, Bool.and_eq_true, decide_eq_true_eq] at h6; omega
      simp (maxSteps := 1000000) -implicitDefEqProofs only [↓reduceIte, ↓cond_true, ↓cond_false, sr1, sr2, kA, seval, zz5, zf8, zf9, zdy, zdz, zd0, zd1, n137, zge, zgf, zz8, h1, h3, h4, h5, h6, h7, zec, zrv, zal, hb, zmk, ix_z zab hx.1 hx.2, zbj, yady, zlb hx.2]
 | false =>
  cases h2 : (decide (o.kind = 2) || (decide (o.kind = 3) || decide (o.kind = 4))) with
  | false =>
   obtain ⟨k2, k3, k4⟩ : decide (o.kind = 2) = false ∧ decide (o.kind = 3) = false ∧ decide (o.kind = 4) = false := by simpa using h2
   simp (maxSteps := 1000000) -implicitDefEqProofs only [↓reduceIte, ↓cond_true, ↓cond_false, sr1, sr2, kA, seval, zz5, zf8, zf9, zdy, zdz, zd0, zd1, n137, zge, zgf, zz8, h1, k2, k3, k4, zds]
  | true =>
   cases k2 : decide (o.kind = 2) with
   | true => simp (maxSteps := 1000000) -implicitDefEqProofs only [↓reduceIte, ↓cond_true, ↓cond_false, sr1, sr2, kA, seval, zz5, zf8, zf9, zdy, zdz, zd0, zd1, n137, zge, zgf, zz8, h1, k2, yaty, zal, fr, zql]
   | false =>
    cases k3 : decide (o.kind = 3) with
    | true => simp (maxSteps := 1000000) -implicitDefEqProofs only [↓reduceIte, ↓cond_true, ↓cond_false, sr1, sr2, kA, seval, zz5, zf8, zf9, zdy, zdz, zd0, zd1, n137, zge, zgf, zz8, h1, k2, k3, yaty, zal, fr, zql]
    | false =>
     have k4 : decide (o.kind = 4) = true := by simpa [k2, k3] using h2
     simp (maxSteps := 1000000) -implicitDefEqProofs only [↓reduceIte, ↓cond_true, ↓cond_false, sr1, sr2, kA, seval, zz5, zf8, zf9, zdy, zdz, zd0, zd1, n137, zge, zgf, zz8, h1, k2, k3, k4, yaty, zal, fr, zql]
def zkf (m : MMach) (s : MInstr) (i : Nat) (o : MOpd) (ok : Bool) : Bool × Int := bif (zlk m.word o.pieces ok 0).1 then (false, 0) else zk0 m s i o (zlk m.word o.pieces ok 0).2.1 (zlk m.word o.pieces ok 0).2.2
theorem zys (m : MMach) (hB : Bd m) (s : MInstr) (i : Nat) (h : i < s.operands.length) (hs : s.operands.length < 1000000) (ho : s.operands[i].pieces.length < 1000000) (ok : Bool) (hf : (zlk m.word s.operands[i].pieces ok 0).2.1 = true → 0 ≤ zdx s.operands[i]) :
  zaq Tryz.prog (om Tryz.prog) 137 [.ptr 0 0, zaf s, .int .i64 i] (ckH m ok) = some (.int .u64 (zkf m s i s.operands[i] ok).2, ckH m (zkf m s i s.operands[i] ok).1) := by
 have L := yahg m s s.operands[i] ho i 0 (Nat.zero_le _) ok 0
 simp only [Int.natCast_zero, List.drop_zero] at L
 have R := zwx m hB s s.operands[i] ho i (by omega) (by omega) (zlk m.word s.operands[i].pieces ok 0).2.1 (zlk m.word s.operands[i].pieces ok 0).2.2 hf
 rw [yaro _ _ (by simp)]
 cases hp : (zlk m.word s.operands[i].pieces ok 0).1 with
 | true =>
  rw [hp] at L
  simp only [cond_true] at L
  simp (maxSteps := 1000000) -implicitDefEqProofs only [↓reduceIte, ↓cond_true, ↓cond_false, sr1, sr2, kA, seval, zz5, zf8, zf9, zdy, zdz, zd0, zd1, n137, zge, zgf, zz8, zaf, ix_sl zab h, zbj, L, zkf, hp]
 | false =>
  rw [hp] at L
  simp only [cond_false] at L
  have L2 := (congrArg (fun r => fin Tryz.prog 1 [.tmp 6] (nxt r yaha)) L).trans R
  simp only [yaha] at L2
  simp (maxSteps := 1000000) -implicitDefEqProofs only [↓reduceIte, ↓cond_true, ↓cond_false, sr1, sr2, kA, seval, zz5, zf8, zf9, zdy, zdz, zd0, zd1, n137, zge, zgf, zz8, zaf, ix_sl zab h, zbj, L2, zkf, hp]
def zgx (m : MMach) (o : MOpd) : Prop := ∃ (h : o.bank.toNat < m.banks.length), 0 ≤ o.bank ∧ ∃ (h2 : 0 < m.banks[o.bank.toNat].regs.length), 0 ≤ m.banks[o.bank.toNat].regs[0] ∧ m.banks[o.bank.toNat].regs[0].toNat < m.regs.length
def zoo (m : MMach) (o : MOpd) : Int := bif decide (o.kind = 1) then (match m.banks[o.bank.toNat]? with | some b => ze3 m (b.regs.getD 0 0) | none => 0) else m.address
theorem yab8 (m : MMach) (o : MOpd) (h : o.kind = 1 → zgx m o) : zaq Tryz.prog (om Tryz.prog) 161 [zac m, zbj o] ⟨0, []⟩ = some (.int .i64 (zoo m o), ⟨0, []⟩) := by
 rw [yar3 _ _ (by simp)]
 cases hk : decide (o.kind = 1) with
 | false => simp (maxSteps := 1000000) -implicitDefEqProofs only [↓reduceIte, ↓cond_true, ↓cond_false, sr1, sr2, kA, seval, d161, yaoo, n161, zac, zad, zbj, hk, zoo]
 | true =>
  obtain ⟨h1, h0, h2, h3, h4⟩ := h (by simpa using hk)
  have z0 := ix_sl (k := .i64) (f := zdt) (sz := 1) (c := m.banks[o.bank.toNat].p.cap) (zab (p := m.banks[o.bank.toNat].p) (f := zdt)) h2
  simp only [Int.natCast_zero] at z0
  simp (maxSteps := 1000000) -implicitDefEqProofs only [↓reduceIte, ↓cond_true, ↓cond_false, sr1, sr2, kA, seval, d161, yaoo, n161, zac, zad, zbj, hk, ix_z zab h0 h1, zem, z0, zdt, ix_z zab h3 h4, zei, zoo, zlb h1, zcq h2, zcf h4]
theorem zxh (m : MMach) (o : MOpd) (h : o.kind = 1 → zgx m o) : zaq Tryz.prog (om Tryz.prog) 156 [zac m, zbj o] ⟨0, []⟩ = some (.int .i64 (zoo m o), ⟨0, []⟩) := by
 rw [yarz _ _ (by simp)]
 cases hk : decide (o.kind = 1) with
 | false => simp (maxSteps := 1000000) -implicitDefEqProofs only [↓reduceIte, ↓cond_true, ↓cond_false, sr1, sr2, kA, seval, d156, yaon, n156, zac, zad, zbj, hk, zoo]
 | true =>
  obtain ⟨h1, h0, h2, h3, h4⟩ := h (by simpa using hk)
  have z0 := ix_sl (k := .i64) (f := zdt) (sz := 1) (c := m.banks[o.bank.toNat].p.cap) (zab (p := m.banks[o.bank.toNat].p) (f := zdt)) h2
  simp only [Int.natCast_zero] at z0
  simp (maxSteps := 1000000) -implicitDefEqProofs only [↓reduceIte, ↓cond_true, ↓cond_false, sr1, sr2, kA, seval, d156, yaon, n156, zac, zad, zbj, hk, ix_z zab h0 h1, zem, z0, zdt, ix_z zab h3 h4, zei, zoo, zlb h1, zcq h2, zcf h4]
end Go.Proofs.YtcfcphhamfhfcaaGreatDoor.v
