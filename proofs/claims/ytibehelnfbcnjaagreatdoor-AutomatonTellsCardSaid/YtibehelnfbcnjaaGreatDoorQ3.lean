/- What the law's proof leans on, part 22. Conditions: in each statement. -/
import Derived.Test.YtibehelnfbcnjaaGreatDoorQ2
import Derived.Test.YtibehelnfbcnjaaGreatDoorQ1
set_option linter.all false
namespace Go.Proofs.YtibehelnfbcnjaaGreatDoor.v
open Go Go.Ab
set_option maxRecDepth 100000
set_option maxHeartbeats 4000000
set_option linter.unusedSimpArgs false
set_option linter.unusedVariables false
theorem zva : ∀ {l : List Bn} {k : Nat} (h : k < l.length), (bnC l)[k * 3]? = some (.str l[k].1)
 | x :: l, 0, h => rfl
 | x :: l, k + 1, h => by
  have := zva (l := l) (k := k) (by simpa using h)
  rw [show (k + 1) * 3 = k * 3 + 3 by omega]
  simpa [bnC] using this
theorem zvb : ∀ {l : List Bn} {k : Nat} (h : k < l.length), (bnC l)[k * 3 + 1]? = some (.int .i64 l[k].2)
 | x :: l, 0, h => rfl
 | x :: l, k + 1, h => by
  have := zvb (l := l) (k := k) (by simpa using h)
  rw [show (k + 1) * 3 + 1 = k * 3 + 1 + 3 by omega]
  simpa [bnC] using this
abbrev lH (l : List Bn) : Heap := ⟨1, [some (.cells 227 (bnC l))]⟩
theorem yaml {l : List Bn} {i k : Nat} (hi : i < l.length) (hk : k < l.length) : bad2 l i k = (decide (l[k].1 = l[i].1) && !decide (l[k].2 = l[i].2)) := by
 simp only [bad2, List.getElem?_eq_getElem hi, List.getElem?_eq_getElem hk]
theorem yag0 (l : List Bn) (hl : l.length < 2 ^ 62) (i : Nat) (hi : i < l.length) : ∀ k, k ≤ i → lim (some [3, 4]) 0 (blk 2 (om Tryz.prog ⟨142, none⟩ 0 (.loop (lpb Tryz.f142 1)) ⟨⟨54, [(3, .sl 0 0 l.length 3), (4, .int .i64 i), (5, .int .i64 k)]⟩, [], lH l⟩)) =
  bif zb0 (fun k => !bad2 l i k) k i then some (.normal, ⟨⟨54, [(3, .sl 0 0 l.length 3), (4, .int .i64 i)]⟩, [], lH l⟩) else some (.ret, ⟨⟨54, [(2, .int .i64 14)]⟩, [], ⟨0, []⟩⟩) := by
 refine zbl ?_ (fun k h ih => ?_) <;> rw [zac]
 ·simp (maxSteps := 1000000) -implicitDefEqProofs only [↓reduceIte, ↓cond_true, ↓cond_false, sr1, sr2, kA, seval, d142, zej, n142, e142, lH, za4, zby, zcm]
 ·rw [zch h, yaml hi (show k < l.length by omega)]
  have hk : k < l.length := by omega
  cases hn : decide (l[k].1 = l[i].1) with
  | true =>
   cases hw : decide (l[k].2 = l[i].2) with
   | true => simp (maxSteps := 1000000) -implicitDefEqProofs only [↓reduceIte, ↓cond_true, ↓cond_false, sr1, sr2, kA, seval, d142, zej, n142, e142, lH, dlt_t h, wi_nat (show k < 2 ^ 62 by omega), Go.Ab.ix_sl hk, Go.Ab.ix_sl hi, zva hk, zva hi, zvb hk, zvb hi, hn, hw, ih, zby, zcm]
   | false => simp (maxSteps := 1000000) -implicitDefEqProofs only [↓reduceIte, ↓cond_true, ↓cond_false, sr1, sr2, kA, seval, d142, zej, n142, e142, lH, dlt_t h, wi_nat (show k < 2 ^ 62 by omega), Go.Ab.ix_sl hk, Go.Ab.ix_sl hi, zva hk, zva hi, zvb hk, zvb hi, hn, hw, ih, zby, zcm]
  | false => simp (maxSteps := 1000000) -implicitDefEqProofs only [↓reduceIte, ↓cond_true, ↓cond_false, sr1, sr2, kA, seval, d142, zej, n142, e142, lH, dlt_t h, wi_nat (show k < 2 ^ 62 by omega), Go.Ab.ix_sl hk, Go.Ab.ix_sl hi, zva hk, zva hi, zvb hk, zvb hi, hn, ih, zby, zcm]
theorem yagz (l : List Bn) (hl : l.length < 2 ^ 62) : ∀ i, i ≤ l.length → lim (some []) 0 (blk 0 (om Tryz.prog ⟨142, none⟩ 0 (.loop (lpb Tryz.f142 0)) ⟨⟨54, [(3, .sl 0 0 l.length 3), (4, .int .i64 i)]⟩, [], lH l⟩)) =
  bif zb0 (fun i => zb0 (fun k => !bad2 l i k) 0 i) i l.length then some (.normal, ⟨⟨54, []⟩, [], ⟨0, []⟩⟩) else some (.ret, ⟨⟨54, [(2, .int .i64 14)]⟩, [], ⟨0, []⟩⟩) := by
 refine zbl ?_ (fun i h ih => ?_) <;> rw [zac]
 ·simp (maxSteps := 1000000) -implicitDefEqProofs only [↓reduceIte, ↓cond_true, ↓cond_false, sr1, sr2, kA, seval, d142, zej, n142, e142, lH, za4, zby, zcm]
 ·have L := yag0 l hl i h 0 (Nat.zero_le _)
  rw [zbq h]
  simp only [lH, Int.natCast_zero] at L
  cases ha : zb0 (fun k => !bad2 l i k) 0 i with
  | true =>
   rw [ha] at L
   simp (maxSteps := 1000000) -implicitDefEqProofs only [↓reduceIte, ↓cond_true, ↓cond_false, sr1, sr2, kA, seval, d142, zej, n142, e142, lH, dlt_t h, wi_nat (show i < 2 ^ 62 by omega), L, ih, zby, zcm]
  | false =>
   rw [ha] at L
   simp (maxSteps := 1000000) -implicitDefEqProofs only [↓reduceIte, ↓cond_true, ↓cond_false, sr1, sr2, kA, seval, d142, zej, n142, e142, lH, dlt_t h, L, zby, zcm]
theorem zub (t : MTerm) (ho : FOk t) (hz : t.sz < 1000000) : zas Tryz.prog (om Tryz.prog) 142 [zaf t] ⟨0, []⟩ = some (.int .i64 (zr1 t), ⟨0, []⟩) := by
 have h1 := zkl t ho.sz
 have h2 := zzn t ho.sz
 have h3 := zzq t ho
 have h4 := yah3 t hz
 have hv := zkq t
 simp only [zaf, zah] at h1 h2 h3 h4
 rw [yam4 _ _ (by simp)]
 cases hs : zpe t with
 | true =>
  have hs' := hs
  unfold zpe at hs'
  simp (maxSteps := 1000000) -implicitDefEqProofs only [↓reduceIte, ↓cond_true, ↓cond_false, sr1, sr2, kA, seval, d142, zej, n142, e142, zaf, zah, h1, h2, hs', zr1, hs]
 | false =>
  have hs' := hs
  unfold zpe at hs'
  simp only [Bool.or_eq_false_iff] at hs'
  cases hf : zde t with
  | false => simp (maxSteps := 1000000) -implicitDefEqProofs only [↓reduceIte, ↓cond_true, ↓cond_false, sr1, sr2, kA, seval, d142, zej, n142, e142, zaf, zah, h1, h2, h3, hf, hs'.1, hs'.2, zr1, hs]
  | true =>
   cases hl : zgi t with
   | nil =>
    rw [hl, zmu] at h4
    simp (maxSteps := 1000000) -implicitDefEqProofs only [↓reduceIte, ↓cond_true, ↓cond_false, sr1, sr2, kA, seval, d142, zej, n142, e142, zaf, zah, h1, h2, h3, h4, hf, hs'.1, hs'.2, zr1, hs, zye, zac, hl, yaa0, za4]
   | cons z u =>
    have L := yagz (z :: u) (by rw [hl] at hv; omega) 0 (Nat.zero_le _)
    rw [hl, zhs] at h4
    have ev : yaa0 (z :: u) = zb0 (fun i => zb0 (fun k => !bad2 (z :: u) i k) 0 i) 0 (z :: u).length := rfl
    rw [← ev] at L
    simp only [lH, zxf, List.length_cons, Int.natCast_zero] at L
    simp (maxSteps := 1000000) -implicitDefEqProofs only [↓reduceIte, ↓cond_true, ↓cond_false, sr1, sr2, kA, seval, d142, zej, n142, e142, zaf, zah, h1, h2, h3, h4, hf, hs'.1, hs'.2, zr1, hs, L, hl, zby, zcm]
abbrev yaie (t tb : TypeId) (m0 m1 m2 m3 m4 m5 m6 : AV) (ok : Bool) (l : List Bool) : Heap := ⟨2, [some (.cells t [m0, m1, m2, m3, m4, m5, m6, .bool ok]), some (.cells tb (l.map AV.bool))]⟩
theorem yao2 (t tb : TypeId) (m0 m1 m2 m3 m4 m5 m6 : AV) (l : List Bool) (hl : l.length < 2 ^ 62)
 (hr : ∀ ρ, AV.renL ρ [m0, m1, m2, m3, m4, m5, m6] = [m0, m1, m2, m3, m4, m5, m6]) (hf : AV.refsL [m0, m1, m2, m3, m4, m5, m6] = []) : ∀ i, i ≤ l.length → ∀ ok, lim (some []) 2 (blk 0 (om Tryz.prog ⟨53, none⟩ 2 (.loop (lpb Tryz.f53 0)) ⟨⟨23, [(0, .ptr 0 0), (6, .sl 1 0 l.length 1), (7, .int .i64 l.length), (8, .int .i64 i)]⟩, [], yaie t tb m0 m1 m2 m3 m4 m5 m6 ok l⟩))
   = some (.normal, ⟨⟨23, []⟩, [], yaie t tb m0 m1 m2 m3 m4 m5 m6 (ok && (l.drop i).all id) l⟩) := by
 simp only [renL_cons, renL_nil, List.cons.injEq, and_true] at hr
 simp only [refsL_cons, refsL_nil, List.append_eq_nil_iff, and_true] at hf
 refine zbl (fun ok => ?_) (fun i h ih ok => ?_) <;> rw [zac]
 ·simp (maxSteps := 1000000) -implicitDefEqProofs only [↓reduceIte, ↓cond_true, ↓cond_false, sr1, sr2, kA, seval, d53, n53, e53, List.drop_length, hr, hf]
 ·have e1 : (l.map AV.bool)[i]? = some (.bool l[i]) := by simp [h]
  have tk : (l.drop i).all id = (l[i] && (l.drop (i + 1)).all id) := by rw [List.drop_eq_getElem_cons h]; rfl
  simp (maxSteps := 1000000) -implicitDefEqProofs only [↓reduceIte, ↓cond_true, ↓cond_false, sr1, sr2, kA, seval, d53, n53, e53, dlt_t h, wi_nat (show i < 2 ^ 62 by omega), h, e1, hr, hf, ih, tk, Bool.and_assoc]
theorem yaif (t tb : TypeId) (m0 m1 m2 m3 m4 m5 m6 : AV) (l : List Bool) (hl : l.length < 2 ^ 62)
 (hr : ∀ ρ, AV.renL ρ [m0, m1, m2, m3, m4, m5, m6] = [m0, m1, m2, m3, m4, m5, m6]) (hf : AV.refsL [m0, m1, m2, m3, m4, m5, m6] = []) (ok : Bool) :
  zas Tryz.prog (om Tryz.prog) 53 [.ptr 0 0, .sl 1 0 l.length 1] (yaie t tb m0 m1 m2 m3 m4 m5 m6 ok l) = some (.tup [], yaie t tb m0 m1 m2 m3 m4 m5 m6 (ok && l.all id) l) := by
 have L := yao2 t tb m0 m1 m2 m3 m4 m5 m6 l hl hr hf 0 (Nat.zero_le _) ok
 simp only [renL_cons, renL_nil, List.cons.injEq, and_true] at hr
 simp only [refsL_cons, refsL_nil, List.append_eq_nil_iff, and_true] at hf
 rw [Int.natCast_zero, List.drop_zero] at L
 rw [yarw _ _ (by simp)]
 simp (maxSteps := 1000000) -implicitDefEqProofs only [↓reduceIte, ↓cond_true, ↓cond_false, sr1, sr2, kA, seval, d53, n53, e53, hr, hf, L]
theorem yaox (a : Addr) (c : Nat) (x y : Int) : zas Tryz.prog (om Tryz.prog) 37 [.rsl (some a) c 1 [.int .i64 x, .int .i64 y]] ⟨0, []⟩ = some (.int .i64 (bif decide (x < y) then y else x), ⟨0, []⟩) := by
 rw [yarp _ _ (by simp)]
 simp (maxSteps := 1000000) -implicitDefEqProofs only [↓reduceIte, ↓cond_true, ↓cond_false, sr1, sr2, kA, seval, d37, n37, e37, zat, zac]
theorem zjp (n : Nat) (k : Int) (hk : 0 ≤ k) : zas Tryz.prog (om Tryz.prog) 82 [.int .i64 k, .sl 0 0 1 1] ⟨1, [some (.cells 3 [.int .i64 n])]⟩ = some (.bool (decide ((n : Int) ≤ k)), ⟨1, [none]⟩) := by
 rw [yasd _ _ (by simp)]
 have e : (bif decide ((n : Int) < 0) then (0 : Int) else n) = n := by rw [decide_eq_false (by omega)]; rfl
 simp (maxSteps := 1000000) -implicitDefEqProofs only [↓reduceIte, ↓cond_true, ↓cond_false, sr1, sr2, kA, seval, d82, n82, zco, yaox, e]
 trace_state
theorem yajk {l : List ByteArray} {n : Nat} (h : n = l.length) : (l.map AV.str).take n = l.map AV.str := by rw [List.take_of_length_le (by simp [h])]
theorem yazl {a : Addr} {l : List ByteArray} : okS (some a) (l.map AV.str) = true := rfl
abbrev nm0 : Heap := ⟨1, [some (.cells 136 [.rsl none 0 0 []])]⟩
abbrev nm1 (l : List ByteArray) : Heap := ⟨2, [some (.cells 136 [.sl 1 0 l.length 1]), some (.cells 9 (l.map AV.str))]⟩
theorem yadf (s : ByteArray) : zas Tryz.prog (om Tryz.prog) 120 [.rsl none 0 0 [], .str s] ⟨0, []⟩ = some (.int .i64 (-1), ⟨0, []⟩) := by
 rw [yab4 _ _ (by simp)]
 simp (maxSteps := 1000000) -implicitDefEqProofs only [↓reduceIte, ↓cond_true, ↓cond_false, sr1, sr2, kA, seval, d120, n120, e120, zac]
theorem contains_nil (s : ByteArray) : zas Tryz.prog (om Tryz.prog) 83 [.rsl none 0 0 [], .str s] ⟨0, []⟩ = some (.bool false, ⟨0, []⟩) := by
 rw [yaj8 _ _ (by simp)]
 simp (maxSteps := 1000000) -implicitDefEqProofs only [↓reduceIte, ↓cond_true, ↓cond_false, sr1, sr2, kA, seval, d83, n83, yadf s]
abbrev nm2 (l : List ByteArray) : Heap := ⟨3, [some (.cells 136 [.sl 2 0 l.length 1]), none, some (.cells 9 (l.map AV.str))]⟩
theorem zh1 (s : ByteArray) (hs : s.size < 2 ^ 62) : zas Tryz.prog (om Tryz.prog) 59 [.ptr 0 0, .str s] nm0 = some (.bool (za3 s), nm1 [s]) := by
 rw [yaj6 _ _ (by simp)]
 simp (maxSteps := 1000000) -implicitDefEqProofs only [↓reduceIte, ↓cond_true, ↓cond_false, sr1, sr2, kA, seval, d59, n59, zmm s hs, contains_nil s, nm0, nm1, zco]
 trace_state
theorem zgy (l : List ByteArray) (s : ByteArray) (hs : s.size < 2 ^ 62) (hl : l.length < 1000000) : zas Tryz.prog (om Tryz.prog) 59 [.ptr 0 0, .str s] (nm1 l) = some (.bool (za3 s && !zlm l s), nm2 (l ++ [s])) := by
 have c0 := fun a c => zsu (some a) c l s rfl (by omega)
 have f1 : zos 16 l.length 1 = true := zco (by omega) (by omega)
 rw [yaj6 _ _ (by simp)]
 simp (maxSteps := 1000000) -implicitDefEqProofs only [↓reduceIte, ↓cond_true, ↓cond_false, sr1, sr2, kA, seval, d59, n59, zmm s hs, c0, nm1, zco, yajk, f1, nm2]
 trace_state
abbrev zb2 (m : MMach) : Heap := ⟨1, [some (.cells 27 (zae m))]⟩
structure Bd (m : MMach) : Prop where
 r : m.regs.length < 1000000
 b : m.banks.length < 1000000
 u : m.units.length < 1000000
 i : m.instrs.length < 1000000
 br : ∀ b ∈ m.banks, b.regs.length < 1000000
 o : ∀ s ∈ m.instrs, s.operands.length < 1000000
 e : ∀ s ∈ m.instrs, s.effects.length < 1000000
 p : ∀ s ∈ m.instrs, ∀ o ∈ s.operands, o.pieces.length < 1000000
def yabx (b : MBank) : Bool := decide ((b.regs.length : Int) ≤ 64)
def opdF (o : MOpd) : Bool := decide ((o.pieces.length : Int) ≤ 4)
def zpu (s : MInstr) : Bool := decide ((s.operands.length : Int) ≤ 4) && (decide ((s.effects.length : Int) ≤ 4) && s.operands.all opdF)
theorem zjl {α : Type} {l : List α} {p : α → Bool} {i : Nat} (h : i < l.length) : (l.drop i).all p = (p l[i] && (l.drop (i + 1)).all p) := by
 rw [List.drop_eq_getElem_cons h]; rfl
theorem yajd (m : MMach) (hB : Bd m) : ∀ i, i ≤ m.banks.length → ∀ ok, lim (some [1, 3]) 0 (blk 0 (om Tryz.prog ⟨52, none⟩ 0 (.loop (lpb Tryz.f52 0)) ⟨⟨92, [(1, .ptr 0 0), (3, .bool ok), (37, .rsl (slA m.pb m.banks) m.pb.cap 2 (m.banks.map zbv)), (38, .int .i64 m.banks.length), (39, .int .i64 i)]⟩, [], zb2 m⟩)) = some (.normal, ⟨⟨92, [(1, .ptr 0 0), (3, .bool (ok && (m.banks.drop i).all yabx))]⟩, [], zb2 m⟩) := by
 have hb := hB.b
 refine zbl (fun ok => ?_) (fun i h ih ok => ?_) <;> rw [zac]
 ·simp (maxSteps := 1000000) -implicitDefEqProofs only [↓reduceIte, ↓cond_true, ↓cond_false, sr1, sr2, kA, seval, d52, n52, zv7, e52, zb2, zae, List.drop_length]
 ·simp (maxSteps := 1000000) -implicitDefEqProofs only [↓reduceIte, ↓cond_true, ↓cond_false, sr1, sr2, kA, seval, d52, n52, zv7, e52, zb2, zae, dlt_t h, wi_nat (show i < 2 ^ 62 by omega), ix_sl zab h, zbv, zjp, ih, zjl h, yabx, Bool.and_assoc]
  trace_state
theorem yajf (p : Pl) (l : List MOpd) (hl : l.length < 1000000) (a53 : Option Addr) (c53 : Nat) (v53 : List AV) (n54 n55 : Int) : ∀ i, i ≤ l.length → ∀ ok, lim (some [3, 53, 54, 55]) 0 (blk 4 (om Tryz.prog ⟨52, none⟩ 0 (.loop (lpb Tryz.f52 2)) ⟨⟨92, [(3, .bool ok), (53, .rsl a53 c53 9 v53), (54, .int .i64 n54), (55, .int .i64 n55), (75, .rsl (slA p l) p.cap 6 (l.map zaq)), (76, .int .i64 l.length), (77, .int .i64 i)]⟩, [], ⟨0, []⟩⟩)) = some (.normal, ⟨⟨92, [(3, .bool (ok && (l.drop i).all opdF)), (53, .rsl a53 c53 9 v53), (54, .int .i64 n54), (55, .int .i64 n55)]⟩, [], ⟨0, []⟩⟩) := by
 refine zbl (fun ok => ?_) (fun i h ih ok => ?_) <;> rw [zac]
 ·simp (maxSteps := 1000000) -implicitDefEqProofs only [↓reduceIte, ↓cond_true, ↓cond_false, sr1, sr2, kA, seval, d52, n52, zv7, e52, List.drop_length]
 ·simp (maxSteps := 1000000) -implicitDefEqProofs only [↓reduceIte, ↓cond_true, ↓cond_false, sr1, sr2, kA, seval, d52, n52, zv7, e52, dlt_t h, wi_nat (show i < 2 ^ 62 by omega), ix_sl zab h, zaq, zjp, ih, zjl h, opdF, Bool.and_assoc]
theorem yaje (m : MMach) (hB : Bd m) : ∀ i, i ≤ m.instrs.length → ∀ ok, lim (some [3]) 0 (blk 2 (om Tryz.prog ⟨52, none⟩ 0 (.loop (lpb Tryz.f52 1)) ⟨⟨92, [(3, .bool ok), (53, .rsl (slA m.pi m.instrs) m.pi.cap 9 (m.instrs.map zad)), (54, .int .i64 m.instrs.length), (55, .int .i64 i)]⟩, [], ⟨0, []⟩⟩)) = some (.normal, ⟨⟨92, [(3, .bool (ok && (m.instrs.drop i).all zpu))]⟩, [], ⟨0, []⟩⟩) := by
 have hi := hB.i
 refine zbl (fun ok => ?_) (fun i h ih ok => ?_) <;> rw [zac]
 ·simp (maxSteps := 1000000) -implicitDefEqProofs only [↓reduceIte, ↓cond_true, ↓cond_false, sr1, sr2, kA, seval, d52, n52, zv7, e52, List.drop_length]
 ·have L := yajf m.instrs[i].po m.instrs[i].operands (hB.o _ (by simp)) (slA m.pi m.instrs) m.pi.cap (m.instrs.map zad) m.instrs.length i 0 (Nat.zero_le _)
  simp only [Int.natCast_zero, List.drop_zero] at L
  simp (maxSteps := 1000000) -implicitDefEqProofs only [↓reduceIte, ↓cond_true, ↓cond_false, sr1, sr2, kA, seval, d52, n52, zv7, e52, dlt_t h, wi_nat (show i < 2 ^ 62 by omega), ix_sl zab h, zad, zjp, L, ih, zjl h, zpu, Bool.and_assoc]
def zhq (m : MMach) : Bool := decide ((m.regs.length : Int) ≤ 64) && (decide ((m.banks.length : Int) ≤ 16) && (decide ((m.units.length : Int) ≤ 8) && decide ((m.instrs.length : Int) ≤ 64))) && m.banks.all yabx && m.instrs.all zpu
theorem yafk (m : MMach) (hB : Bd m) : zas Tryz.prog (om Tryz.prog) 52 [zag m] ⟨0, []⟩ = some (.bool (zhq m), ⟨0, []⟩) := by
 have L := yajd m hB 0 (Nat.zero_le _)
 have L1 := yaje m hB 0 (Nat.zero_le _)
 simp only [Int.natCast_zero, List.drop_zero] at L L1
 rw [yarv _ _ (by simp)]
 simp (maxSteps := 1000000) -implicitDefEqProofs only [↓reduceIte, ↓cond_true, ↓cond_false, sr1, sr2, kA, seval, d52, n52, zv7, e52, zag, zjp, L, L1, zhq]
def yagv (b : MBank) : Bool := decide ((64 : Int) < b.regs.length)
def opdG (o : MOpd) : Bool := decide ((4 : Int) < o.pieces.length)
theorem yaga (m : MMach) (hB : Bd m) : ∀ i, i ≤ m.banks.length → lim (some [1]) 0 (blk 0 (om Tryz.prog ⟨61, none⟩ 0 (.loop (lpb Tryz.f61 0)) ⟨⟨91, [(1, .ptr 0 0), (3, .int .i64 i)]⟩, [], zb2 m⟩)) = bif (m.banks.drop i).all (fun x => !yagv x) then some (.normal, ⟨⟨91, [(1, .ptr 0 0)]⟩, [], zb2 m⟩) else some (.ret, ⟨⟨91, [(2, .bool false)]⟩, [], ⟨0, []⟩⟩) := by
 have hb := hB.b
 refine zbl ?_ (fun i h ih => ?_) <;> rw [zac]
 ·simp (maxSteps := 1000000) -implicitDefEqProofs only [↓reduceIte, ↓cond_true, ↓cond_false, sr1, sr2, kA, seval, d61, n61, zv8, e61, List.drop_length]
 ·rw [zcy h]
  simp (maxSteps := 1000000) -implicitDefEqProofs only [↓reduceIte, ↓cond_true, ↓cond_false, sr1, sr2, kA, seval, d61, n61, zv8, e61, dlt_t h, wi_nat (show i < 2 ^ 62 by omega), ix_sl zab h, zbv, ih]
  rfl
theorem yagc (m : MMach) (hB : Bd m) (j : Nat) (hj : j < m.instrs.length) : ∀ i, i ≤ m.instrs[j].operands.length → lim (some [1, 4]) 0 (blk 4 (om Tryz.prog ⟨61, none⟩ 0 (.loop (lpb Tryz.f61 2)) ⟨⟨91, [(1, .ptr 0 0), (4, .int .i64 j), (5, .int .i64 i)]⟩, [], zb2 m⟩)) = bif (m.instrs[j].operands.drop i).all (fun x => !opdG x) then some (.normal, ⟨⟨91, [(1, .ptr 0 0), (4, .int .i64 j)]⟩, [], zb2 m⟩) else some (.ret, ⟨⟨91, [(2, .bool false)]⟩, [], ⟨0, []⟩⟩) := by
 have hb := hB.o m.instrs[j] (by simp)
 refine zbl ?_ (fun i h ih => ?_) <;> rw [zac]
 ·simp (maxSteps := 1000000) -implicitDefEqProofs only [↓reduceIte, ↓cond_true, ↓cond_false, sr1, sr2, kA, seval, d61, n61, zv8, e61, List.drop_length, ix_sl zab hj, zad]
 ·rw [zcy h]
  simp (maxSteps := 1000000) -implicitDefEqProofs only [↓reduceIte, ↓cond_true, ↓cond_false, sr1, sr2, kA, seval, d61, n61, zv8, e61, dlt_t h, wi_nat (show i < 2 ^ 62 by omega), ix_sl zab hj, ix_sl zab h, zad, zaq, ih]
  rfl
def ztg (s : MInstr) : Bool := (decide ((4 : Int) < s.operands.length) || decide ((4 : Int) < s.effects.length)) || !s.operands.all (fun x => !opdG x)
theorem yagb (m : MMach) (hB : Bd m) : ∀ i, i ≤ m.instrs.length → lim (some []) 0 (blk 2 (om Tryz.prog ⟨61, none⟩ 0 (.loop (lpb Tryz.f61 1)) ⟨⟨91, [(1, .ptr 0 0), (4, .int .i64 i)]⟩, [], zb2 m⟩)) = bif (m.instrs.drop i).all (fun x => !ztg x) then some (.normal, ⟨⟨91, []⟩, [], ⟨0, []⟩⟩) else some (.ret, ⟨⟨91, [(2, .bool false)]⟩, [], ⟨0, []⟩⟩) := by
 have hi := hB.i
 refine zbl ?_ (fun i h ih => ?_) <;> rw [zac]
 ·simp (maxSteps := 1000000) -implicitDefEqProofs only [↓reduceIte, ↓cond_true, ↓cond_false, sr1, sr2, kA, seval, d61, n61, zv8, e61, List.drop_length]
 ·have L := yagc m hB i h 0 (Nat.zero_le _)
  simp only [Int.natCast_zero, List.drop_zero] at L
  rw [zcy h, ztg, yanz, cond_not]
  simp (maxSteps := 1000000) -implicitDefEqProofs only [↓reduceIte, ↓cond_true, ↓cond_false, sr1, sr2, kA, seval, d61, n61, zv8, e61, dlt_t h, wi_nat (show i < 2 ^ 62 by omega), ix_sl zab h, zad, L, ih]
def zr6 (m : MMach) : Bool := !(decide ((64 : Int) < m.regs.length) || decide ((16 : Int) < m.banks.length) || decide ((8 : Int) < m.units.length) || decide ((64 : Int) < m.instrs.length)) && (m.banks.all (fun x => !yagv x) && m.instrs.all (fun x => !ztg x))
theorem zw1 (m : MMach) (hB : Bd m) : zas Tryz.prog (om Tryz.prog) 61 [zag m] ⟨0, []⟩ = some (.bool (zr6 m), ⟨0, []⟩) := by
 have L := yaga m hB 0 (Nat.zero_le _)
 have L1 := yagb m hB 0 (Nat.zero_le _)
 simp only [Int.natCast_zero, List.drop_zero] at L L1
 rw [yar2 _ _ (by simp)]
 simp (maxSteps := 1000000) -implicitDefEqProofs only [↓reduceIte, ↓cond_true, ↓cond_false, sr1, sr2, kA, seval, d61, n61, zv8, e61, zag, L, L1, zr6]
theorem zfv {a b : Int} : decide (a ≤ b) = !decide (b < a) := by by_cases h : a ≤ b <;> simp [h] <;> omega
theorem zuu (m : MMach) : zr6 m = zhq m := by
 have h1 : (fun x => !yagv x) = yabx := by funext b; simp only [yagv, yabx, zfv]
 have h3 : (fun x => !opdG x) = opdF := by funext b; simp only [opdG, opdF, zfv]
 have h2 : (fun x => !ztg x) = zpu := by funext b; simp only [ztg, zpu, zfv, h3, Bool.not_or, Bool.not_not, Bool.and_assoc]
 simp only [zr6, zhq, h1, h2, zfv, Bool.not_or, Bool.and_assoc]
abbrev ckC (m : MMach) (ok : Bool) : List AV := [.str m.name, .int .i64 m.word, .int .i64 m.address, .rsl (slA m.pr m.regs) m.pr.cap 4 (m.regs.map zgp), .rsl (slA m.pb m.banks) m.pb.cap 2 (m.banks.map zbv), .rsl (slA m.pu m.units) m.pu.cap 2 (m.units.map unV), .rsl (slA m.pi m.instrs) m.pi.cap 9 (m.instrs.map zad), .bool ok]
abbrev ckH (m : MMach) (ok : Bool) : Heap := ⟨1, [some (.cells 130 (ckC m ok))]⟩
theorem znr (m : MMach) (ok : Bool) (l : List Bool) (hl : l.length < 2 ^ 62) : zas Tryz.prog (om Tryz.prog) 53 [.ptr 0 0, .sl 1 0 l.length 1] ⟨2, [some (.cells 130 (ckC m ok)), some (.cells 4 (l.map AV.bool))]⟩ = some (.tup [], ⟨2, [some (.cells 130 (ckC m (ok && l.all id))), some (.cells 4 (l.map AV.bool))]⟩) :=
 yaif _ _ _ _ _ _ _ _ _ l hl (fun ρ => rfl) rfl ok
theorem zcv (m : MMach) (ok a : Bool) : zas Tryz.prog (om Tryz.prog) 53 [.ptr 0 0, .sl 1 0 1 1] ⟨2, [some (.cells 130 (ckC m ok)), some (.cells 4 [.bool a])]⟩ = some (.tup [], ⟨2, [some (.cells 130 (ckC m (ok && a))), some (.cells 4 [.bool a])]⟩) := by
 have h := znr m ok [a] (by simp)
 simpa only [List.length_cons, List.length_nil, Nat.zero_add, Nat.reduceAdd, List.map_cons, List.map_nil, List.all_cons, List.all_nil, id, Bool.and_true] using h
theorem zc7 (m : MMach) (ok a b : Bool) : zas Tryz.prog (om Tryz.prog) 53 [.ptr 0 0, .sl 1 0 2 1] ⟨2, [some (.cells 130 (ckC m ok)), some (.cells 4 [.bool a, .bool b])]⟩ = some (.tup [], ⟨2, [some (.cells 130 (ckC m (ok && (a && b)))), some (.cells 4 [.bool a, .bool b])]⟩) := by
 have h := znr m ok [a, b] (by simp)
 simpa only [List.length_cons, List.length_nil, Nat.zero_add, Nat.reduceAdd, List.map_cons, List.map_nil, List.all_cons, List.all_nil, id, Bool.and_true] using h
theorem zo5 (m : MMach) (ok a b c : Bool) : zas Tryz.prog (om Tryz.prog) 53 [.ptr 0 0, .sl 1 0 3 1] ⟨2, [some (.cells 130 (ckC m ok)), some (.cells 4 [.bool a, .bool b, .bool c])]⟩ = some (.tup [], ⟨2, [some (.cells 130 (ckC m (ok && (a && (b && c))))), some (.cells 4 [.bool a, .bool b, .bool c])]⟩) := by
 have h := znr m ok [a, b, c] (by simp)
 simpa only [List.length_cons, List.length_nil, Nat.zero_add, Nat.reduceAdd, List.map_cons, List.map_nil, List.all_cons, List.all_nil, id, Bool.and_true] using h
theorem yat6 (m : MMach) (ok a b c d : Bool) : zas Tryz.prog (om Tryz.prog) 53 [.ptr 0 0, .sl 1 0 4 1] ⟨2, [some (.cells 130 (ckC m ok)), some (.cells 4 [.bool a, .bool b, .bool c, .bool d])]⟩ = some (.tup [], ⟨2, [some (.cells 130 (ckC m (ok && (a && (b && (c && d)))))), some (.cells 4 [.bool a, .bool b, .bool c, .bool d])]⟩) := by
 have h := znr m ok [a, b, c, d] (by simp)
 simpa only [List.length_cons, List.length_nil, Nat.zero_add, Nat.reduceAdd, List.map_cons, List.map_nil, List.all_cons, List.all_nil, id, Bool.and_true] using h
theorem yao1 (m : MMach) (ok a b c d e : Bool) : zas Tryz.prog (om Tryz.prog) 53 [.ptr 0 0, .sl 1 0 5 1] ⟨2, [some (.cells 130 (ckC m ok)), some (.cells 4 [.bool a, .bool b, .bool c, .bool d, .bool e])]⟩ = some (.tup [], ⟨2, [some (.cells 130 (ckC m (ok && (a && (b && (c && (d && e))))))), some (.cells 4 [.bool a, .bool b, .bool c, .bool d, .bool e])]⟩) := by
 have h := znr m ok [a, b, c, d, e] (by simp)
 simpa only [List.length_cons, List.length_nil, Nat.zero_add, Nat.reduceAdd, List.map_cons, List.map_nil, List.all_cons, List.all_nil, id, Bool.and_true] using h
theorem ya2u (m : MMach) (ok a b c d e f : Bool) : zas Tryz.prog (om Tryz.prog) 53 [.ptr 0 0, .sl 1 0 6 1] ⟨2, [some (.cells 130 (ckC m ok)), some (.cells 4 [.bool a, .bool b, .bool c, .bool d, .bool e, .bool f])]⟩ = some (.tup [], ⟨2, [some (.cells 130 (ckC m (ok && (a && (b && (c && (d && (e && f)))))))), some (.cells 4 [.bool a, .bool b, .bool c, .bool d, .bool e, .bool f])]⟩) := by
 have h := znr m ok [a, b, c, d, e, f] (by simp)
 simpa only [List.length_cons, List.length_nil, Nat.zero_add, Nat.reduceAdd, List.map_cons, List.map_nil, List.all_cons, List.all_nil, id, Bool.and_true] using h
theorem yaid (m : MMach) (ok a b c d e f g : Bool) : zas Tryz.prog (om Tryz.prog) 53 [.ptr 0 0, .sl 1 0 7 1] ⟨2, [some (.cells 130 (ckC m ok)), some (.cells 4 [.bool a, .bool b, .bool c, .bool d, .bool e, .bool f, .bool g])]⟩ = some (.tup [], ⟨2, [some (.cells 130 (ckC m (ok && (a && (b && (c && (d && (e && (f && g))))))))), some (.cells 4 [.bool a, .bool b, .bool c, .bool d, .bool e, .bool f, .bool g])]⟩) := by
 have h := znr m ok [a, b, c, d, e, f, g] (by simp)
 simpa only [List.length_cons, List.length_nil, Nat.zero_add, Nat.reduceAdd, List.map_cons, List.map_nil, List.all_cons, List.all_nil, id, Bool.and_true] using h
def zbj {α : Type} (nm : α → ByteArray) (q : α → Bool) : List α → List ByteArray → Bool
 | [], _ => true
 | u :: us, l => ((za3 (nm u) && !zlm l (nm u)) && q u) && zbj nm q us (l ++ [nm u])
theorem zb9 {α : Type} {nm : α → ByteArray} {q : α → Bool} {us : List α} {l : List ByteArray} {i : Nat} (h : i < us.length) : zbj nm q (us.drop i) l = (((za3 (nm us[i]) && !zlm l (nm us[i])) && q us[i]) && zbj nm q (us.drop (i + 1)) (l ++ [nm us[i]])) := by
 rw [List.drop_eq_getElem_cons h]; rfl
theorem zf9 {s : ByteArray} : zlm [] s = false := rfl
abbrev ckN (m : MMach) (ok : Bool) (l : List ByteArray) : Heap := ⟨3, [some (.cells 130 (ckC m ok)), some (.cells 136 [.sl 2 0 l.length 1]), some (.cells 9 (l.map AV.str))]⟩
abbrev ck0 (m : MMach) (ok : Bool) : Heap := ⟨2, [some (.cells 130 (ckC m ok)), some (.cells 136 [.rsl none 0 0 []])]⟩
structure Sd (m : MMach) : Prop where
 r : ∀ x ∈ m.regs, x.name.size < 2 ^ 62
 b : ∀ x ∈ m.banks, x.name.size < 2 ^ 62
 u : ∀ x ∈ m.units, x.name.size < 2 ^ 62
 i : ∀ x ∈ m.instrs, x.name.size < 2 ^ 62
 o : ∀ s ∈ m.instrs, ∀ o ∈ s.operands, o.name.size < 2 ^ 62
def zko (u : MUn) : Bool := inR u.count 1 4
theorem yaqc (m : MMach) (hB : Bd m) (hS : Sd m) : ∀ i, i ≤ m.units.length → ∀ ok l, l.length + (m.units.length - i) < 1000000 → lim (some []) 1 (blk 0 (om Tryz.prog ⟨58, none⟩ 1 (.loop (lpb Tryz.f58 0)) ⟨⟨35, [(0, .ptr 0 0), (2, .ptr 1 0), (19, .rsl (slA m.pu m.units) m.pu.cap 2 (m.units.map unV)), (20, .int .i64 m.units.length), (21, .int .i64 i)]⟩, [], ckN m ok l⟩)) = some (.normal, ⟨⟨35, []⟩, [], ckH m (ok && zbj MUn.name zko (m.units.drop i) l)⟩) := by
 have hu := hB.u
 refine zbl (fun ok l hl => ?_) (fun i h ih ok l hl => ?_) <;> rw [zac]
 ·simp (maxSteps := 1000000) -implicitDefEqProofs only [↓reduceIte, ↓cond_true, ↓cond_false, sr1, sr2, kA, seval, d58, yac0, n58, e58, List.drop_length, zbj]
 ·have L := fun ok => ih ok (l ++ [m.units[i].name]) (by simp; omega)
  simp only [ckN, List.length_append, List.length_cons, List.length_nil, List.map_append, List.map_cons, List.map_nil, Nat.zero_add] at L
  simp (maxSteps := 1000000) -implicitDefEqProofs only [↓reduceIte, ↓cond_true, ↓cond_false, sr1, sr2, kA, seval, d58, yac0, n58, e58, dlt_t h, wi_nat (show i < 2 ^ 62 by omega), ix_sl zab h, unV, zc7, zai, zgy l _ (hS.u _ (List.getElem_mem h)) (by omega), L, zb9 h, zko, Bool.and_assoc]
  trace_state
theorem yaqb (m : MMach) (hB : Bd m) (hS : Sd m) (ok : Bool) (i : Nat) (hi : i = 0) : lim (some []) 1 (blk 0 (om Tryz.prog ⟨58, none⟩ 1 (.loop (lpb Tryz.f58 0)) ⟨⟨35, [(0, .ptr 0 0), (2, .ptr 1 0), (19, .rsl (slA m.pu m.units) m.pu.cap 2 (m.units.map unV)), (20, .int .i64 m.units.length), (21, .int .i64 i)]⟩, [], ck0 m ok⟩)) = some (.normal, ⟨⟨35, []⟩, [], ckH m (ok && zbj MUn.name zko (m.units.drop i) [])⟩) := by
 have hu := hB.u
 by_cases h : i < m.units.length <;> rw [zac]
 ·have L := fun ok => yaqc m hB hS (i + 1) (by omega) ok [m.units[i].name] (by simp; omega)
  simp only [ckN, List.length_cons, List.length_nil, List.map_cons, List.map_nil, Nat.zero_add] at L
  simp (maxSteps := 1000000) -implicitDefEqProofs only [↓reduceIte, ↓cond_true, ↓cond_false, sr1, sr2, kA, seval, d58, yac0, n58, e58, dlt_t h, wi_nat (show i < 2 ^ 62 by omega), ix_sl zab h, unV, zc7, zai, zh1 _ (hS.u _ (List.getElem_mem h)), L, zb9 h, zko, Bool.and_assoc, zf9]
 ·have e : m.units.length = i := by omega
  simp (maxSteps := 1000000) -implicitDefEqProofs only [↓reduceIte, ↓cond_true, ↓cond_false, sr1, sr2, kA, seval, d58, yac0, n58, e58, e, List.drop_length, show m.units.drop i = [] by rw [← e, List.drop_length], zbj]
theorem yaf5 (m : MMach) (hB : Bd m) (hS : Sd m) (ok : Bool) : zas Tryz.prog (om Tryz.prog) 58 [.ptr 0 0] (ckH m ok) = some (.tup [], ckH m (ok && (decide (0 < (m.units.length : Int)) && zbj MUn.name zko m.units []))) := by
 have L := fun ok => yaqb m hB hS ok 0 rfl
 simp only [Int.natCast_zero, List.drop_zero] at L
 rw [yar1 _ _ (by simp)]
 simp (maxSteps := 1000000) -implicitDefEqProofs only [↓reduceIte, ↓cond_true, ↓cond_false, sr1, sr2, kA, seval, d58, yac0, n58, e58, zcv, L, Bool.and_assoc]
def zwn (r root : MReg) : Bool := decide (root.of_ = -1) && (decide (r.width < root.width) && (inR root.width 1 64 && inR r.low 0 (IntKind.i64.wrap (root.width - r.width))))
def zp3 (m : MMach) (r : MReg) : Bool := inR r.width 1 64 && bif decide (r.of_ = -1) then decide (r.low = 0) else bif inR r.of_ 0 ((m.regs.length : Int) - 1) then (match m.regs[r.of_.toNat]? with | some root => zwn r root | none => false) else false
theorem zc4 {α : Type} {l : List α} {n : Int} (h : inR n 0 ((l.length : Int) - 1) = true) : 0 ≤ n ∧ n.toNat < l.length := by
 simp only [inR, Bool.and_eq_true, decide_eq_true_eq] at h; omega
theorem zam {n : Nat} (h : n < 1000000) : IntKind.i64.wrap ((n : Int) - 1) = (n : Int) - 1 := zdr (by omega) (by omega)
theorem yau0 (m : MMach) (hB : Bd m) (hS : Sd m) : ∀ i, i ≤ m.regs.length → ∀ ok l, l.length + (m.regs.length - i) < 1000000 → lim (some []) 1 (blk 0 (om Tryz.prog ⟨56, none⟩ 1 (.loop (lpb Tryz.f56 0)) ⟨⟨92, [(0, .ptr 0 0), (2, .ptr 1 0), (20, .rsl (slA m.pr m.regs) m.pr.cap 4 (m.regs.map zgp)), (21, .int .i64 m.regs.length), (22, .int .i64 i)]⟩, [], ckN m ok l⟩)) = some (.normal, ⟨⟨92, []⟩, [], ckH m (ok && zbj MReg.name (zp3 m) (m.regs.drop i) l)⟩) := by
 have hu := hB.r
 refine zbl (fun ok l hl => ?_) (fun i h ih ok l hl => ?_) <;> rw [zac]
 ·simp (maxSteps := 1000000) -implicitDefEqProofs only [↓reduceIte, ↓cond_true, ↓cond_false, sr1, sr2, kA, seval, d56, zq1, zjr, zq2, zq3, n56, e56, List.drop_length, zbj]
 ·have L := fun ok => ih ok (l ++ [m.regs[i].name]) (by simp; omega)
  simp only [ckN, List.length_append, List.length_cons, List.length_nil, List.map_append, List.map_cons, List.map_nil, Nat.zero_add] at L
  have hq := zgy l _ (hS.r _ (List.getElem_mem h)) (by omega)
  rw [zb9 h]
  cases hA : decide (m.regs[i].of_ = -1) with
  | true =>
   simp (maxSteps := 1000000) -implicitDefEqProofs only [↓reduceIte, ↓cond_true, ↓cond_false, sr1, sr2, kA, seval, d56, zq1, zjr, zq2, zq3, n56, e56, dlt_t h, wi_nat (show i < 2 ^ 62 by omega), ix_sl zab h, zgp, zc7, zcv, zai, hq, L, zp3, Bool.and_assoc, hA]
  | false =>
   cases hI : inR m.regs[i].of_ 0 ((m.regs.length : Int) - 1) with
   | false =>
    simp (maxSteps := 1000000) -implicitDefEqProofs only [↓reduceIte, ↓cond_true, ↓cond_false, sr1, sr2, kA, seval, d56, zq1, zjr, zq2, zq3, n56, e56, dlt_t h, wi_nat (show i < 2 ^ 62 by omega), ix_sl zab h, zgp, zc7, zcv, zai, hq, L, zp3, Bool.and_assoc, hA, zam hu, hI]
   | true =>
    obtain ⟨h0, h1⟩ := zc4 hI
    simp (maxSteps := 1000000) -implicitDefEqProofs only [↓reduceIte, ↓cond_true, ↓cond_false, sr1, sr2, kA, seval, d56, zq1, zjr, zq2, zq3, n56, e56, dlt_t h, wi_nat (show i < 2 ^ 62 by omega), ix_sl zab h, ix_z zab h0 h1, zgp, zc7, yat6, zai, hq, L, zp3, Bool.and_assoc, hA, zam hu, hI, List.getElem?_eq_getElem h1, zwn]
theorem yauz (m : MMach) (hB : Bd m) (hS : Sd m) (ok : Bool) (i : Nat) (hi : i = 0) : lim (some []) 1 (blk 0 (om Tryz.prog ⟨56, none⟩ 1 (.loop (lpb Tryz.f56 0)) ⟨⟨92, [(0, .ptr 0 0), (2, .ptr 1 0), (20, .rsl (slA m.pr m.regs) m.pr.cap 4 (m.regs.map zgp)), (21, .int .i64 m.regs.length), (22, .int .i64 i)]⟩, [], ck0 m ok⟩)) = some (.normal, ⟨⟨92, []⟩, [], ckH m (ok && zbj MReg.name (zp3 m) (m.regs.drop i) [])⟩) := by
 have hu := hB.r
 by_cases h : i < m.regs.length <;> rw [zac]
 ·have L := fun ok => yau0 m hB hS (i + 1) (by omega) ok [m.regs[i].name] (by simp; omega)
  simp only [ckN, List.length_cons, List.length_nil, List.map_cons, List.map_nil, Nat.zero_add] at L
  have hq := zh1 _ (hS.r _ (List.getElem_mem h))
  rw [zb9 h]
  cases hA : decide (m.regs[i].of_ = -1) with
  | true =>
   simp (maxSteps := 1000000) -implicitDefEqProofs only [↓reduceIte, ↓cond_true, ↓cond_false, sr1, sr2, kA, seval, d56, zq1, zjr, zq2, zq3, n56, e56, dlt_t h, wi_nat (show i < 2 ^ 62 by omega), ix_sl zab h, zgp, zc7, zcv, zai, hq, L, zp3, Bool.and_assoc, hA, zf9]
  | false =>
   cases hI : inR m.regs[i].of_ 0 ((m.regs.length : Int) - 1) with
   | false =>
    simp (maxSteps := 1000000) -implicitDefEqProofs only [↓reduceIte, ↓cond_true, ↓cond_false, sr1, sr2, kA, seval, d56, zq1, zjr, zq2, zq3, n56, e56, dlt_t h, wi_nat (show i < 2 ^ 62 by omega), ix_sl zab h, zgp, zc7, zcv, zai, hq, L, zp3, Bool.and_assoc, hA, zam hu, hI, zf9]
   | true =>
    obtain ⟨h0, h1⟩ := zc4 hI
    simp (maxSteps := 1000000) -implicitDefEqProofs only [↓reduceIte, ↓cond_true, ↓cond_false, sr1, sr2, kA, seval, d56, zq1, zjr, zq2, zq3, n56, e56, dlt_t h, wi_nat (show i < 2 ^ 62 by omega), ix_sl zab h, ix_z zab h0 h1, zgp, zc7, yat6, zai, hq, L, zp3, Bool.and_assoc, hA, zam hu, hI, List.getElem?_eq_getElem h1, zwn, zf9]
 ·have e : m.regs.length = i := by omega
  simp (maxSteps := 1000000) -implicitDefEqProofs only [↓reduceIte, ↓cond_true, ↓cond_false, sr1, sr2, kA, seval, d56, zq1, zjr, zq2, zq3, n56, e56, e, List.drop_length, show m.regs.drop i = [] by rw [← e, List.drop_length], zbj]
def zie (m : MMach) : Bool := decide (0 < (m.regs.length : Int)) && zbj MReg.name (zp3 m) m.regs []
theorem yai2 (m : MMach) (hB : Bd m) (hS : Sd m) (ok : Bool) : zas Tryz.prog (om Tryz.prog) 56 [.ptr 0 0] (ckH m ok) = some (.tup [], ckH m (ok && zie m)) := by
 have L := fun ok => yauz m hB hS ok 0 rfl
 simp only [Int.natCast_zero, List.drop_zero] at L
 rw [yarz _ _ (by simp)]
 simp (maxSteps := 1000000) -implicitDefEqProofs only [↓reduceIte, ↓cond_true, ↓cond_false, sr1, sr2, kA, seval, d56, zq1, zjr, zq2, zq3, n56, e56, zcv, L, Bool.and_assoc, zie]
def adrS (a : Option Addr) (cap lo s : Nat) : Option Addr := if cap = lo then a else a.map (·.add (lo * s))
theorem yavo {α : Type} {f : α → AV} {P : Program} {H : Heap} {a : Option Addr} {cap s i : Nat} {l : List α} (h : i ≤ l.length) : slcK P H s (.rsl a cap s (l.map f)) none (some (.int .i64 (i : Int))) = some (.rsl (adrS a cap 0 s) cap s ((l.take i).map f)) := by
 simp [slcK, zba, h, adrS, List.map_take]
theorem yais {α : Type} {f : α → AV} {a : Option Addr} {cap lo s i : Nat} {l : List α} (h : okS a (l.map f) = true) : okS (adrS a cap lo s) ((l.take i).map f) = true := by
 cases a with
 | none =>
  cases l with
  | nil => simp [okS]
  | cons x l => simp [okS] at h
 | some a => unfold adrS; split <;> rfl
def zv0 (l : List Int) (s : Int) : Bool := l.any fun x => decide (s = x)
def idxI (s : Int) : List Int → Nat → Int
 | [], _ => -1
 | x :: l, i => bif decide (s = x) then (i : Int) else idxI s l (i + 1)
theorem yadd {s : Int} {l : List Int} {i : Nat} (h : i < l.length) : idxI s (l.drop i) i = bif decide (s = l[i]) then (i : Int) else idxI s (l.drop (i + 1)) (i + 1) := by
 rw [List.drop_eq_getElem_cons h]; rfl
theorem zx4 {s : Int} : ∀ {l : List Int} {i : Nat}, decide (0 ≤ idxI s l i) = zv0 l s
 | [], i => rfl
 | x :: l, i => by
  simp only [idxI, zv0, List.any_cons]
  by_cases e : s = x
  ·simp only [e, decide_true, cond_true, Bool.true_or]; exact decide_eq_true (by omega)
  ·simp only [e, decide_false, cond_false, Bool.false_or]; exact zx4
theorem yahr (a : Option Addr) (c : Nat) (l : List Int) (s : Int) (ha : okS a (l.map zat) = true) (hl : l.length < 2 ^ 62) : ∀ i, i ≤ l.length → nxt (lim (some []) 0 (blk 0 (om Tryz.prog ⟨94, none⟩ 0 (.loop (lpb Tryz.f94 0)) ⟨⟨19, [(0, .rsl a c 1 (l.map zat)), (1, .int .i64 s), (7, .int .i64 l.length), (8, .int .i64 i)]⟩, [], ⟨0, []⟩⟩))) (Ox Tryz.prog ⟨94, none⟩ 0 (.seq (za7 Tryz.f94 7) .ret)) = some (.ret, ⟨⟨19, [(4, .int .i64 (idxI s (l.drop i) i))]⟩, [], ⟨0, []⟩⟩) := by
 refine zbl ?_ (fun i h ih => ?_) <;> rw [zac]
 ·simp (maxSteps := 1000000) -implicitDefEqProofs only [↓reduceIte, ↓cond_true, ↓cond_false, sr1, sr2, kA, seval, d94, n94, e94, List.drop_length, idxI]
 ·simp (maxSteps := 1000000) -implicitDefEqProofs only [↓reduceIte, ↓cond_true, ↓cond_false, sr1, sr2, kA, seval, d94, n94, e94, dlt_t h, wi_nat (show i < 2 ^ 62 by omega), ix_sl ha h, zat, ih, yadd h]
theorem zzu (a : Option Addr) (c : Nat) (l : List Int) (s : Int) (ha : okS a (l.map zat) = true) (hl : l.length < 2 ^ 62) : zas Tryz.prog (om Tryz.prog) 94 [.rsl a c 1 (l.map zat), .int .i64 s] ⟨0, []⟩ = some (.int .i64 (idxI s l 0), ⟨0, []⟩) := by
 have L := yahr a c l s ha hl 0 (Nat.zero_le _)
 simp only [Int.natCast_zero, List.drop_zero] at L
 rw [yasm _ _ (by simp)]
 simp (maxSteps := 1000000) -implicitDefEqProofs only [↓reduceIte, ↓cond_true, ↓cond_false, sr1, sr2, kA, seval, d94, n94, e94, L]
theorem zf3 (a : Option Addr) (c : Nat) (l : List Int) (s : Int) (ha : okS a (l.map zat) = true) (hl : l.length < 2 ^ 62) : zas Tryz.prog (om Tryz.prog) 70 [.rsl a c 1 (l.map zat), .int .i64 s] ⟨0, []⟩ = some (.bool (zv0 l s), ⟨0, []⟩) := by
 rw [yasa _ _ (by simp)]
 simp (maxSteps := 1000000) -implicitDefEqProofs only [↓reduceIte, ↓cond_true, ↓cond_false, sr1, sr2, kA, seval, d70, n70, zzu a c l s ha hl, zx4]
def zfi (m : MMach) (r : Int) : Int := match m.regs[r.toNat]? with | some x => x.width | none => 0
def zsd (m : MMach) (l : List Int) (k : Nat) : Bool := inR (l.getD k 0) 0 ((m.regs.length : Int) - 1) && !zv0 (l.take k) (l.getD k 0) && decide (zfi m (l.getD k 0) = zfi m (l.getD 0 0))
theorem za2 {l : List Int} {i : Nat} (h : i < l.length) : l.getD i 0 = l[i] := by simp [h]
theorem zct {m : MMach} {r : Int} (h : r.toNat < m.regs.length) : zfi m r = m.regs[r.toNat].width := by
 unfold zfi; rw [List.getElem?_eq_getElem h]
abbrev bkH (m : MMach) (ok : Bool) (l : List ByteArray) (b : MBank) : Heap := ⟨4, [some (.cells 130 (ckC m ok)), some (.cells 136 [.sl 3 0 l.length 1]), some (.cells 74 [.str b.name, .rsl (slA b.p b.regs) b.p.cap 1 (b.regs.map zat)]), some (.cells 9 (l.map AV.str))]⟩
theorem zxd (m : MMach) (hB : Bd m) (b : MBank) (hb : b.regs.length < 1000000) (l : List ByteArray) (n12 n13 : Int) (a11 : Option Addr) (c11 : Nat) (v11 : List AV) : ∀ i, i ≤ b.regs.length → ∀ ok, (ok = true → ∀ x ∈ b.regs.take i, inR x 0 ((m.regs.length : Int) - 1) = true) → lim (some [0, 2, 11, 12, 13]) 1 (blk 2 (om Tryz.prog ⟨57, none⟩ 1 (.loop (lpb Tryz.f57 1)) ⟨⟨85, [(0, .ptr 0 0), (2, .ptr 1 0), (4, .ptr 2 0), (11, .rsl a11 c11 2 v11), (12, .int .i64 n12), (13, .int .i64 n13), (28, .rsl (slA b.p b.regs) b.p.cap 1 (b.regs.map zat)), (29, .int .i64 b.regs.length), (30, .int .i64 i)]⟩, [], bkH m ok l b⟩)) = some (.normal, ⟨⟨85, [(0, .ptr 0 0), (2, .ptr 1 0), (11, .rsl a11 c11 2 v11), (12, .int .i64 n12), (13, .int .i64 n13)]⟩, [], ckN m (ok && zb0 (zsd m b.regs) i b.regs.length) l⟩) := by
 refine zbl (fun ok hk => ?_) (fun i h ih ok hk => ?_) <;> rw [zac]
 ·simp (maxSteps := 1000000) -implicitDefEqProofs only [↓reduceIte, ↓cond_true, ↓cond_false, sr1, sr2, kA, seval, d57, zq4, zq5, zjs, n57, e57, za4]
 ·have hq := fun r => zf3 (adrS (slA b.p b.regs) b.p.cap 0 1) b.p.cap (b.regs.take i) r (yais zab) (by simp; omega)
  have hs := fun (P : Program) (H : Heap) => yavo (f := zat) (P := P) (H := H) (a := slA b.p b.regs) (cap := b.p.cap) (s := 1) (Nat.le_of_lt h)
  rw [zbq h, zsd, za2 h]
  cases hI : inR b.regs[i] 0 ((m.regs.length : Int) - 1) with
  | false =>
   have L := ih false (by simp)
   simp (maxSteps := 1000000) -implicitDefEqProofs only [↓reduceIte, ↓cond_true, ↓cond_false, sr1, sr2, kA, seval, d57, zq4, zq5, zjs, n57, e57, dlt_t h, wi_nat (show i < 2 ^ 62 by omega), ix_sl zab h, zat, zc7, zcv, zai, zam hB.r, hs, hq, hI, L]
  | true =>
   cases hO : (ok && !zv0 (b.regs.take i) b.regs[i]) with
   | false =>
    have L := ih false (by simp)
    have hO2 : ∀ x, (ok && (!zv0 (b.regs.take i) b.regs[i] && x)) = false := fun x => by rw [← Bool.and_assoc, hO]; rfl
    simp (maxSteps := 1000000) -implicitDefEqProofs only [↓reduceIte, ↓cond_true, ↓cond_false, sr1, sr2, kA, seval, d57, zq4, zq5, zjs, n57, e57, dlt_t h, wi_nat (show i < 2 ^ 62 by omega), ix_sl zab h, zat, zc7, zcv, zai, zam hB.r, hs, hq, hI, hO, L, hO2, Bool.and_assoc]
   | true =>
    obtain ⟨rfl, hO1⟩ : ok = true ∧ zv0 (b.regs.take i) b.regs[i] = false := by simpa using hO
    have hz : 0 < b.regs.length := by omega
    have hall : ∀ x ∈ b.regs.take (i + 1), inR x 0 ((m.regs.length : Int) - 1) = true := by
     intro x hx
     rw [List.take_succ_eq_append_getElem h, List.mem_append, List.mem_singleton] at hx
     rcases hx with hx | rfl
     ·exact hk rfl x hx
     ·exact hI
    have hI0 : inR b.regs[0] 0 ((m.regs.length : Int) - 1) = true := hall _ (List.mem_iff_getElem.2 ⟨0, by simp; omega, by simp⟩)
    have L := fun ok' => ih ok' fun _ => hall
    obtain ⟨h0, h1⟩ := zc4 hI
    obtain ⟨h2, h3⟩ := zc4 hI0
    have z0 := ix_sl (k := .i64) (f := zat) (sz := 1) (c := b.p.cap) (zab (p := b.p) (f := zat)) hz
    simp only [Int.natCast_zero] at z0
    simp (maxSteps := 1000000) -implicitDefEqProofs only [↓reduceIte, ↓cond_true, ↓cond_false, sr1, sr2, kA, seval, d57, zq4, zq5, zjs, n57, e57, dlt_t h, wi_nat (show i < 2 ^ 62 by omega), ix_sl zab h, z0, ix_z zab h0 h1, ix_z zab h2 h3, zat, zgp, zc7, zcv, zai, zam hB.r, hs, hq, hI, hO1, L, Bool.and_assoc, zct h1, za2 hz, zct h3]
def zm1 (m : MMach) (b : MBank) : Bool := decide (0 < (b.regs.length : Int)) && zb0 (zsd m b.regs) 0 b.regs.length
theorem yamo (m : MMach) (hB : Bd m) (hS : Sd m) : ∀ i, i ≤ m.banks.length → ∀ ok l, l.length + (m.banks.length - i) < 1000000 → lim (some []) 1 (blk 0 (om Tryz.prog ⟨57, none⟩ 1 (.loop (lpb Tryz.f57 0)) ⟨⟨85, [(0, .ptr 0 0), (2, .ptr 1 0), (11, .rsl (slA m.pb m.banks) m.pb.cap 2 (m.banks.map zbv)), (12, .int .i64 m.banks.length), (13, .int .i64 i)]⟩, [], ckN m ok l⟩)) = some (.normal, ⟨⟨85, []⟩, [], ckH m (ok && zbj MBank.name (zm1 m) (m.banks.drop i) l)⟩) := by
 have hu := hB.b
 refine zbl (fun ok l hl => ?_) (fun i h ih ok l hl => ?_) <;> rw [zac]
 ·simp (maxSteps := 1000000) -implicitDefEqProofs only [↓reduceIte, ↓cond_true, ↓cond_false, sr1, sr2, kA, seval, d57, zq4, zq5, zjs, n57, e57, List.drop_length, zbj]
 ·have L := fun ok => ih ok (l ++ [m.banks[i].name]) (by simp; omega)
  simp only [ckN, List.length_append, List.length_cons, List.length_nil, List.map_append, List.map_cons, List.map_nil, Nat.zero_add] at L
  have hq := zgy l _ (hS.b _ (List.getElem_mem h)) (by omega)
  have L1 := fun ok => zxd m hB m.banks[i] (hB.br _ (List.getElem_mem h)) (l ++ [m.banks[i].name]) m.banks.length i (slA m.pb m.banks) m.pb.cap (m.banks.map zbv) 0 (Nat.zero_le _) ok (by simp)
  simp only [bkH, ckN, Int.natCast_zero, List.length_append, List.length_cons, List.length_nil, List.map_append, List.map_cons, List.map_nil, Nat.zero_add] at L1
  rw [zb9 h]
  simp (maxSteps := 1000000) -implicitDefEqProofs only [↓reduceIte, ↓cond_true, ↓cond_false, sr1, sr2, kA, seval, d57, zq4, zq5, zjs, n57, e57, dlt_t h, wi_nat (show i < 2 ^ 62 by omega), ix_sl zab h, zbv, zc7, hq, L, L1, zm1, Bool.and_assoc]
theorem yamn (m : MMach) (hB : Bd m) (hS : Sd m) (ok : Bool) (i : Nat) (hi : i = 0) : lim (some []) 1 (blk 0 (om Tryz.prog ⟨57, none⟩ 1 (.loop (lpb Tryz.f57 0)) ⟨⟨85, [(0, .ptr 0 0), (2, .ptr 1 0), (11, .rsl (slA m.pb m.banks) m.pb.cap 2 (m.banks.map zbv)), (12, .int .i64 m.banks.length), (13, .int .i64 i)]⟩, [], ck0 m ok⟩)) = some (.normal, ⟨⟨85, []⟩, [], ckH m (ok && zbj MBank.name (zm1 m) (m.banks.drop i) [])⟩) := by
 have hu := hB.b
 by_cases h : i < m.banks.length <;> rw [zac]
 ·have L := fun ok => yamo m hB hS (i + 1) (by omega) ok [m.banks[i].name] (by simp; omega)
  simp only [ckN, List.length_cons, List.length_nil, List.map_cons, List.map_nil, Nat.zero_add] at L
  have hq := zh1 _ (hS.b _ (List.getElem_mem h))
  have L1 := fun ok => zxd m hB m.banks[i] (hB.br _ (List.getElem_mem h)) [m.banks[i].name] m.banks.length i (slA m.pb m.banks) m.pb.cap (m.banks.map zbv) 0 (Nat.zero_le _) ok (by simp)
  simp only [bkH, ckN, Int.natCast_zero, List.length_cons, List.length_nil, List.map_cons, List.map_nil, Nat.zero_add] at L1
  rw [zb9 h]
  simp (maxSteps := 1000000) -implicitDefEqProofs only [↓reduceIte, ↓cond_true, ↓cond_false, sr1, sr2, kA, seval, d57, zq4, zq5, zjs, n57, e57, dlt_t h, wi_nat (show i < 2 ^ 62 by omega), ix_sl zab h, zbv, zc7, hq, L, L1, zm1, Bool.and_assoc, zf9]
 ·have e : m.banks.length = i := by omega
  simp (maxSteps := 1000000) -implicitDefEqProofs only [↓reduceIte, ↓cond_true, ↓cond_false, sr1, sr2, kA, seval, d57, zq4, zq5, zjs, n57, e57, e, List.drop_length, show m.banks.drop i = [] by rw [← e, List.drop_length], zbj]
def zdc (m : MMach) : Bool := zbj MBank.name (zm1 m) m.banks []
theorem yabz (m : MMach) (hB : Bd m) (hS : Sd m) (ok : Bool) : zas Tryz.prog (om Tryz.prog) 57 [.ptr 0 0] (ckH m ok) = some (.tup [], ckH m (ok && zdc m)) := by
 have L := fun ok => yamn m hB hS ok 0 rfl
 simp only [Int.natCast_zero, List.drop_zero] at L
 rw [yar0 _ _ (by simp)]
 simp (maxSteps := 1000000) -implicitDefEqProofs only [↓reduceIte, ↓cond_true, ↓cond_false, sr1, sr2, kA, seval, d57, zq4, zq5, zjs, n57, e57, L, Bool.and_assoc, zdc]
def andI (a b : Int) : Int := IntKind.u64.wrap ((BitVec.ofInt 64 a &&& BitVec.ofInt 64 b).toNat)
def orI (a b : Int) : Int := IntKind.u64.wrap ((BitVec.ofInt 64 a ||| BitVec.ofInt 64 b).toNat)
theorem yabt {a b : Int} : zb8 .and .u64 a b = some (.int .u64 (andI a b)) := rfl
theorem yalo {a b : Int} : zb8 .or .u64 a b = some (.int .u64 (orI a b)) := rfl
def zn4 (p : MPiece) : Int := IntKind.u64.wrap (zi6 p.len * 2 ^ min p.at_.toNat 64)
theorem yaja {p : MPiece} (h : 0 ≤ p.at_) : zdw .shl .u64 (zi6 p.len) p.at_ = some (.int .u64 (zn4 p)) := by
 unfold zdw; rw [if_neg (by omega)]; rfl
def zcp (w : Int) (p : MPiece) : Bool := inR p.len 1 (IntKind.i64.wrap (8 * w)) && (decide (0 ≤ p.at_) && decide (p.at_ ≤ IntKind.i64.wrap (IntKind.i64.wrap (8 * w) - p.len)))
def zje (w : Int) : List MPiece → Bool → Int → Bool × Bool × Int
 | [], ok, t => (false, ok, t)
 | p :: l, ok, t => bif ok && zcp w p then zje w l (decide (andI t (zn4 p) = 0)) (orI t (zn4 p)) else (true, false, 0)
theorem yaep {w : Int} {l : List MPiece} {i : Nat} {ok : Bool} {t : Int} (h : i < l.length) : zje w (l.drop i) ok t = bif ok && zcp w l[i] then zje w (l.drop (i + 1)) (decide (andI t (zn4 l[i]) = 0)) (orI t (zn4 l[i])) else (true, false, 0) := by
 rw [List.drop_eq_getElem_cons h]; rfl
theorem yaiy {w : Int} {l : List MPiece} {ok : Bool} {t : Int} : zje w (l.drop l.length) ok t = (false, ok, t) := by rw [List.drop_length]; rfl
abbrev zcq (s : MInstr) : List AV := [.str s.name, .int .u64 s.mask, .int .u64 s.mat, .rsl (slA s.po s.operands) s.po.cap 6 (s.operands.map zaq), .rsl (slA s.pe s.effects) s.pe.cap 21 (s.effects.map zr9), .int .i64 s.unit, .int .i64 s.busy, .int .i64 s.latency, .int .i64 s.slots]
abbrev yaur (o : MOpd) : List AV := [.str o.name, .int .u8 o.kind, .int .i64 o.bank, .int .i64 o.scale, .rsl (slA o.p o.pieces) o.p.cap 2 (o.pieces.map ze4), .int .i64 o.tied]
abbrev opH (m : MMach) (ok : Bool) (s : MInstr) (o : MOpd) : Heap := ⟨3, [some (.cells 130 (ckC m ok)), some (.cells 69 (zcq s)), some (.cells 77 (yaur o))]⟩
theorem yaek (m : MMach) (s : MInstr) (o : MOpd) (ho : o.pieces.length < 1000000) (n : Int) : ∀ i, i ≤ o.pieces.length → ∀ ok t, lim (some [0, 2, 4, 6, 7]) 1 (blk 0 (om Tryz.prog ⟨85, none⟩ 1 (.loop (lpb Tryz.f85 0)) ⟨⟨198, [(0, .ptr 0 0), (2, .int .i64 n), (4, .ptr 1 0), (6, .int .u64 t), (7, .ptr 2 0), (20, .rsl (slA o.p o.pieces) o.p.cap 2 (o.pieces.map ze4)), (21, .int .i64 o.pieces.length), (22, .int .i64 i)]⟩, [], opH m ok s o⟩)) = bif (zje m.word (o.pieces.drop i) ok t).1 then some (.ret, ⟨⟨198, [(6, .int .u64 0)]⟩, [], ckH m false⟩) else some (.normal, ⟨⟨198, [(0, .ptr 0 0), (2, .int .i64 n), (4, .ptr 1 0), (6, .int .u64 (zje m.word (o.pieces.drop i) ok t).2.2), (7, .ptr 2 0)]⟩, [], opH m (zje m.word (o.pieces.drop i) ok t).2.1 s o⟩) := by
 refine zbl (fun ok t => ?_) (fun i h ih ok t => ?_) <;> rw [zac]
 ·simp (maxSteps := 1000000) -implicitDefEqProofs only [↓reduceIte, ↓cond_true, ↓cond_false, sr1, sr2, kA, seval, d85, zju, zjv, zew, zex, zey, zez, n85, zj7, zj8, e85, yaiy]
 ·rw [yaep h]
  cases hO : (ok && zcp m.word o.pieces[i]) with
  | false =>
   have hO2 := hO
   unfold zcp at hO2
   simp (maxSteps := 1000000) -implicitDefEqProofs only [↓reduceIte, ↓cond_true, ↓cond_false, sr1, sr2, kA, seval, d85, zju, zjv, zew, zex, zey, zez, n85, zj7, zj8, e85, dlt_t h, wi_nat (show i < 2 ^ 62 by omega), ix_sl zab h, ze4, zo5, zcv, zai, hO2]
  | true =>
   obtain ⟨rfl, hw⟩ : ok = true ∧ zcp m.word o.pieces[i] = true := by simpa using hO
   have hw2 := hw
   unfold zcp at hw2
   have h0 : 0 ≤ o.pieces[i].at_ := by simp only [Bool.and_eq_true, decide_eq_true_eq] at hw2; exact hw2.2.1
   simp (maxSteps := 1000000) -implicitDefEqProofs only [↓reduceIte, ↓cond_true, ↓cond_false, sr1, sr2, kA, seval, d85, zju, zjv, zew, zex, zey, zez, n85, zj7, zj8, e85, dlt_t h, wi_nat (show i < 2 ^ 62 by omega), ix_sl zab h, ze4, zo5, zcv, zai, zrd, hw2, yaja h0, yabt, yalo, ih]
   trace_state
def shl1 (n : Int) : Int := IntKind.i64.wrap (1 * 2 ^ min n.toNat 64)
theorem yazz {n : Int} (h : 0 ≤ n) : zdw .shl .i64 1 n = some (.int .i64 (shl1 n)) := by
 unfold zdw; rw [if_neg (by omega)]; rfl
def zm0 (m : MMach) (b : Int) : Int := match m.banks[b.toNat]? with | some x => (x.regs.length : Int) | none => 0
def yaax (s : MInstr) (o : MOpd) : Bool := match s.operands[o.tied.toNat]? with | some t => decide (t.kind = 1) && (decide (t.bank = o.bank) && decide (t.tied = -1)) | none => false
def yaef (m : MMach) (o : MOpd) (ok : Bool) : Bool := ok && (inR o.bank 0 ((m.banks.length : Int) - 1) && decide (o.scale = 0))
def znx (m : MMach) (o : MOpd) : Bool := decide (0 < zao o) && (decide (6 < zao o) || decide (zm0 m o.bank ≤ shl1 (zao o)))
def ziv (s : MInstr) (i : Nat) (o : MOpd) : Bool := inR o.tied 0 (IntKind.i64.wrap ((i : Int) - 1)) && decide ((o.pieces.length : Int) = 0)
def zl9 (m : MMach) (o : MOpd) : Bool := decide (o.bank = 0) && (decide (o.tied = -1) && (inR o.scale 0 3 && (decide (0 < zao o) && decide (IntKind.i64.wrap (zao o + o.scale) ≤ m.address))))
def ziu (m : MMach) (s : MInstr) (i : Nat) (o : MOpd) (ok : Bool) (t : Int) : Bool × Int :=
 bif decide (o.kind = 1) then (bif yaef m o ok then (bif decide (o.tied = -1) then (znx m o, t) else bif ziv s i o then (yaax s o, t) else (false, t)) else (false, 0))
 else bif decide (o.kind = 2) || (decide (o.kind = 3) || decide (o.kind = 4)) then (ok && zl9 m o, t) else (false, t)
theorem zi4 {α : Type} {l : List α} {n : Nat} (h : n < l.length) : l[n]? = some l[n] := List.getElem?_eq_getElem h
noncomputable abbrev yaeg : St → Rx := Ox Tryz.prog ⟨85, none⟩ 1 (.seq (.seq (za7 Tryz.f85 12) (.block 2 (.seq (za7 Tryz.f85 14) (.cond (.tmp 80) (.seq (za7 Tryz.f85 15) (.seq (.seq (za7 Tryz.f85 16) (.cond (.tmp 102) (.seq (za7 Tryz.f85 17) .ret) .skip)) (.seq (.seq (za7 Tryz.f85 18) (.cond (.tmp 105) (.seq (za7 Tryz.f85 19) (.seq (za7 Tryz.f85 20) (.exit 2))) .skip)) (.seq (za7 Tryz.f85 21) (.seq (za7 Tryz.f85 22) (.cond (.tmp 146) (.seq (za7 Tryz.f85 23) (za7 Tryz.f85 24)) .skip)))))) (.seq (.seq (za7 Tryz.f85 25) (.cond (.tmp 167) .skip (.seq (za7 Tryz.f85 26) (.cond (.tmp 167) .skip (za7 Tryz.f85 27))))) (.cond (.tmp 167) (.seq (za7 Tryz.f85 28) (za7 Tryz.f85 29)) (za7 Tryz.f85 13))))))) (.seq (za7 Tryz.f85 30) .ret))
set_option maxHeartbeats 2000000 in
theorem zt5 (m : MMach) (hB : Bd m) (s : MInstr) (o : MOpd) (ho : o.pieces.length < 1000000) (i : Nat) (hi : i ≤ s.operands.length) (hi2 : i < 1000000) (ok : Bool) (t : Int) (hf : ok = true → 0 ≤ zao o) :
  fin Tryz.prog 1 [.tmp 6] (yaeg ⟨⟨198, [(0, .ptr 0 0), (2, .int .i64 i), (4, .ptr 1 0), (6, .int .u64 t), (7, .ptr 2 0)]⟩, [], opH m ok s o⟩) = some (.int .u64 (ziu m s i o ok t).2, ckH m (ziu m s i o ok t).1) := by
 have fr := zs3 o (by omega)
 simp only [zaq] at fr
 have hb := zam hB.b
 unfold ziu
 cases h1 : decide (o.kind = 1) with
 | true =>
  cases h2 : yaef m o ok with
  | false =>
   unfold yaef at h2
   simp (maxSteps := 1000000) -implicitDefEqProofs only [↓reduceIte, ↓cond_true, ↓cond_false, sr1, sr2, kA, seval, d85, zju, zjv, zew, zex, zey, zez, n85, zj7, zj8, e85, h1, h2, zc7, zai, hb]
  | true =>
   obtain ⟨rfl, h3, h4⟩ : ok = true ∧ inR o.bank 0 ((m.banks.length : Int) - 1) = true ∧ decide (o.scale = 0) = true := by simpa [yaef] using h2
   obtain ⟨b0, b1⟩ := zc4 h3
   cases h5 : decide (o.tied = -1) with
   | true =>
    have e : zm0 m o.bank = (m.banks[o.bank.toNat].regs.length : Int) := by unfold zm0; rw [zi4 b1]
    simp (maxSteps := 1000000) -implicitDefEqProofs only [↓reduceIte, ↓cond_true, ↓cond_false, sr1, sr2, kA, seval, d85, zju, zjv, zew, zex, zey, zez, n85, zj7, zj8, e85, h1, h3, h4, h5, zc7, zai, hb, fr, yazz (hf rfl), ix_z zab b0 b1, zbv, znx, e]
   | false =>
    cases h6 : inR o.tied 0 (IntKind.i64.wrap ((i : Int) - 1)) with
    | false => simp (maxSteps := 1000000) -implicitDefEqProofs only [↓reduceIte, ↓cond_true, ↓cond_false, sr1, sr2, kA, seval, d85, zju, zjv, zew, zex, zey, zez, n85, zj7, zj8, e85, h1, h3, h4, h5, h6, zc7, zai, hb, ziv]
    | true =>
     cases h7 : decide ((o.pieces.length : Int) = 0) with
     | false => simp (maxSteps := 1000000) -implicitDefEqProofs only [↓reduceIte, ↓cond_true, ↓cond_false, sr1, sr2, kA, seval, d85, zju, zjv, zew, zex, zey, zez, n85, zj7, zj8, e85, h1, h3, h4, h5, h6, h7, zc7, zai, hb, ziv]
     | true =>
      have hx : 0 ≤ o.tied ∧ o.tied.toNat < s.operands.length := by
       rw [zdr (by omega) (by omega)] at h6
       simp only [inR, Bool.and_eq_true, decide_eq_true_eq] at h6; omega
      simp (maxSteps := 1000000) -implicitDefEqProofs only [↓reduceIte, ↓cond_true, ↓cond_false, sr1, sr2, kA, seval, d85, zju, zjv, zew, zex, zey, zez, n85, zj7, zj8, e85, h1, h3, h4, h5, h6, h7, zc7, zo5, zai, hb, ziv, ix_z zab hx.1 hx.2, zaq, yaax, zi4 hx.2]
 | false =>
  cases h2 : (decide (o.kind = 2) || (decide (o.kind = 3) || decide (o.kind = 4))) with
  | false =>
   obtain ⟨k2, k3, k4⟩ : decide (o.kind = 2) = false ∧ decide (o.kind = 3) = false ∧ decide (o.kind = 4) = false := by simpa using h2
   simp (maxSteps := 1000000) -implicitDefEqProofs only [↓reduceIte, ↓cond_true, ↓cond_false, sr1, sr2, kA, seval, d85, zju, zjv, zew, zex, zey, zez, n85, zj7, zj8, e85, h1, k2, k3, k4, zcv]
  | true =>
   cases k2 : decide (o.kind = 2) with
   | true => simp (maxSteps := 1000000) -implicitDefEqProofs only [↓reduceIte, ↓cond_true, ↓cond_false, sr1, sr2, kA, seval, d85, zju, zjv, zew, zex, zey, zez, n85, zj7, zj8, e85, h1, k2, yao1, zai, fr, zl9]
   | false =>
    cases k3 : decide (o.kind = 3) with
    | true => simp (maxSteps := 1000000) -implicitDefEqProofs only [↓reduceIte, ↓cond_true, ↓cond_false, sr1, sr2, kA, seval, d85, zju, zjv, zew, zex, zey, zez, n85, zj7, zj8, e85, h1, k2, k3, yao1, zai, fr, zl9]
    | false =>
     have k4 : decide (o.kind = 4) = true := by simpa [k2, k3] using h2
     simp (maxSteps := 1000000) -implicitDefEqProofs only [↓reduceIte, ↓cond_true, ↓cond_false, sr1, sr2, kA, seval, d85, zju, zjv, zew, zex, zey, zez, n85, zj7, zj8, e85, h1, k2, k3, k4, yao1, zai, fr, zl9]
def zid (m : MMach) (s : MInstr) (i : Nat) (o : MOpd) (ok : Bool) : Bool × Int := bif (zje m.word o.pieces ok 0).1 then (false, 0) else ziu m s i o (zje m.word o.pieces ok 0).2.1 (zje m.word o.pieces ok 0).2.2
theorem zwe (m : MMach) (hB : Bd m) (s : MInstr) (i : Nat) (h : i < s.operands.length) (hs : s.operands.length < 1000000) (ho : s.operands[i].pieces.length < 1000000) (ok : Bool) (hf : (zje m.word s.operands[i].pieces ok 0).2.1 = true → 0 ≤ zao s.operands[i]) :
  zas Tryz.prog (om Tryz.prog) 85 [.ptr 0 0, zad s, .int .i64 i] (ckH m ok) = some (.int .u64 (zid m s i s.operands[i] ok).2, ckH m (zid m s i s.operands[i] ok).1) := by
 have L := yaek m s s.operands[i] ho i 0 (Nat.zero_le _) ok 0
 simp only [Int.natCast_zero, List.drop_zero] at L
 have R := zt5 m hB s s.operands[i] ho i (by omega) (by omega) (zje m.word s.operands[i].pieces ok 0).2.1 (zje m.word s.operands[i].pieces ok 0).2.2 hf
 rw [yasf _ _ (by simp)]
 cases hp : (zje m.word s.operands[i].pieces ok 0).1 with
 | true =>
  rw [hp] at L
  simp only [cond_true] at L
  simp (maxSteps := 1000000) -implicitDefEqProofs only [↓reduceIte, ↓cond_true, ↓cond_false, sr1, sr2, kA, seval, d85, zju, zjv, zew, zex, zey, zez, n85, zj7, zj8, e85, zad, ix_sl zab h, zaq, L, zid, hp]
 | false =>
  rw [hp] at L
  simp only [cond_false] at L
  have L2 := (congrArg (fun r => fin Tryz.prog 1 [.tmp 6] (nxt r yaeg)) L).trans R
  simp only [yaeg] at L2
  simp (maxSteps := 1000000) -implicitDefEqProofs only [↓reduceIte, ↓cond_true, ↓cond_false, sr1, sr2, kA, seval, d85, zju, zjv, zew, zex, zey, zez, n85, zj7, zj8, e85, zad, ix_sl zab h, zaq, L2, zid, hp]
def zet (m : MMach) (o : MOpd) : Prop := ∃ (h : o.bank.toNat < m.banks.length), 0 ≤ o.bank ∧ ∃ (h2 : 0 < m.banks[o.bank.toNat].regs.length), 0 ≤ m.banks[o.bank.toNat].regs[0] ∧ m.banks[o.bank.toNat].regs[0].toNat < m.regs.length
def zmb (m : MMach) (o : MOpd) : Int := bif decide (o.kind = 1) then (match m.banks[o.bank.toNat]? with | some b => zfi m (b.regs.getD 0 0) | none => 0) else m.address
theorem zzf (m : MMach) (o : MOpd) (h : o.kind = 1 → zet m o) : zas Tryz.prog (om Tryz.prog) 122 [zag m, zaq o] ⟨0, []⟩ = some (.int .i64 (zmb m o), ⟨0, []⟩) := by
 rw [yamu _ _ (by simp)]
 cases hk : decide (o.kind = 1) with
 | false => simp (maxSteps := 1000000) -implicitDefEqProofs only [↓reduceIte, ↓cond_true, ↓cond_false, sr1, sr2, kA, seval, d122, yakf, n122, zag, zae, zaq, hk, zmb]
 | true =>
  obtain ⟨h1, h0, h2, h3, h4⟩ := h (by simpa using hk)
  have z0 := ix_sl (k := .i64) (f := zat) (sz := 1) (c := m.banks[o.bank.toNat].p.cap) (zab (p := m.banks[o.bank.toNat].p) (f := zat)) h2
  simp only [Int.natCast_zero] at z0
  simp (maxSteps := 1000000) -implicitDefEqProofs only [↓reduceIte, ↓cond_true, ↓cond_false, sr1, sr2, kA, seval, d122, yakf, n122, zag, zae, zaq, hk, ix_z zab h0 h1, zbv, z0, zat, ix_z zab h3 h4, zgp, zmb, zi4 h1, za2 h2, zct h4]
theorem zut (m : MMach) (o : MOpd) (h : o.kind = 1 → zet m o) : zas Tryz.prog (om Tryz.prog) 130 [zag m, zaq o] ⟨0, []⟩ = some (.int .i64 (zmb m o), ⟨0, []⟩) := by
 rw [yam1 _ _ (by simp)]
 cases hk : decide (o.kind = 1) with
 | false => simp (maxSteps := 1000000) -implicitDefEqProofs only [↓reduceIte, ↓cond_true, ↓cond_false, sr1, sr2, kA, seval, d130, yakg, n130, zag, zae, zaq, hk, zmb]
 | true =>
  obtain ⟨h1, h0, h2, h3, h4⟩ := h (by simpa using hk)
  have z0 := ix_sl (k := .i64) (f := zat) (sz := 1) (c := m.banks[o.bank.toNat].p.cap) (zab (p := m.banks[o.bank.toNat].p) (f := zat)) h2
  simp only [Int.natCast_zero] at z0
  simp (maxSteps := 1000000) -implicitDefEqProofs only [↓reduceIte, ↓cond_true, ↓cond_false, sr1, sr2, kA, seval, d130, yakg, n130, zag, zae, zaq, hk, ix_z zab h0 h1, zbv, z0, zat, ix_z zab h3 h4, zgp, zmb, zi4 h1, za2 h2, zct h4]
end Go.Proofs.YtibehelnfbcnjaaGreatDoor.v
