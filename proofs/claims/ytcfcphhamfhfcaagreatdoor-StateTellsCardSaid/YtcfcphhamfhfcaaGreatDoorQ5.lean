/- What the law's proof leans on, part 24. Conditions: in each statement. -/
import Derived.Test.YtcfcphhamfhfcaaGreatDoorQ4
set_option linter.all false
namespace Go.Proofs.YtcfcphhamfhfcaaGreatDoor.v
open Go Go.Ab
set_option maxRecDepth 100000
set_option maxHeartbeats 4000000
set_option linter.unusedSimpArgs false
set_option linter.unusedVariables false
structure MOk (m : MMach) : Prop where
 b : Bd m
 s : Sd m
 n : m.name.size < 2 ^ 62
 i : ∀ s ∈ m.instrs, IOk s
theorem yasw (m : MMach) (hm : MOk m) (h1 : 1 ≤ m.word) (h2 : m.word ≤ 4) (hr : zhx m = true) (hb : zev m = true) : ∀ i, i ≤ m.instrs.length → ∀ ok l, l.length + (m.instrs.length - i) < 1000000 →
  lim (some [3]) 0 (blk 0 (om Tryz.prog ⟨45, none⟩ 0 (.loop (lpb Tryz.f45 0)) ⟨⟨63, [(3, .ptr 0 0), (4, .ptr 1 0), (37, .rsl (slA m.pi m.instrs) m.pi.cap 9 (m.instrs.map zaf)), (38, .int .i64 m.instrs.length), (39, .int .i64 i)]⟩, [], ckN m ok l⟩)) = some (.normal, ⟨⟨63, [(3, .ptr 0 0)]⟩, [], ckH m (ok && zcg MInstr.name (zia m) (m.instrs.drop i) l)⟩) := by
 have hu := hm.b.i
 refine zb8 (fun ok l hl => ?_) (fun i h ih ok l hl => ?_) <;> rw [zae]
 ·simp (maxSteps := 1000000) -implicitDefEqProofs only [↓reduceIte, ↓cond_true, ↓cond_false, sr1, sr2, kA, seval, d45, zla, n45, zlf, e45, List.drop_length, zcg]
 ·have hx := List.getElem_mem h
  have L := fun ok => ih ok (l ++ [m.instrs[i].name]) (by simp; omega)
  have hI := fun ok => zwd m hm.b h1 h2 hr hb m.instrs[i] (hm.i _ hx) ok
  simp only [ckN, List.length_append, List.length_cons, List.length_nil, List.map_append, List.map_cons, List.map_nil, Nat.zero_add, zaf] at L hI
  rw [zc7 h]
  cases ok with
  | false => simp (maxSteps := 1000000) -implicitDefEqProofs only [↓reduceIte, ↓cond_true, ↓cond_false, sr1, sr2, kA, seval, d45, zla, n45, zlf, e45, dlt_t h, ix_sl zab h, zaf]
  | true => simp (maxSteps := 1000000) -implicitDefEqProofs only [↓reduceIte, ↓cond_true, ↓cond_false, sr1, sr2, kA, seval, d45, zla, n45, zlf, e45, dlt_t h, wi_nat (show i < 2 ^ 62 by omega), ix_sl zab h, zaf, zds, ziu l _ (hm.s.i _ hx) (by omega), hI, L, Bool.and_assoc]
theorem yasu (m : MMach) (hm : MOk m) (h1 : 1 ≤ m.word) (h2 : m.word ≤ 4) (hr : zhx m = true) (hb : zev m = true) (ok : Bool) (i : Nat) (hi : i = 0) :
  lim (some [3]) 0 (blk 0 (om Tryz.prog ⟨45, none⟩ 0 (.loop (lpb Tryz.f45 0)) ⟨⟨63, [(3, .ptr 0 0), (4, .ptr 1 0), (37, .rsl (slA m.pi m.instrs) m.pi.cap 9 (m.instrs.map zaf)), (38, .int .i64 m.instrs.length), (39, .int .i64 i)]⟩, [], ck0 m ok⟩)) = some (.normal, ⟨⟨63, [(3, .ptr 0 0)]⟩, [], ckH m (ok && zcg MInstr.name (zia m) (m.instrs.drop i) [])⟩) := by
 have hu := hm.b.i
 by_cases h : i < m.instrs.length <;> rw [zae]
 ·have hx := List.getElem_mem h
  have L := fun ok => yasw m hm h1 h2 hr hb (i + 1) (by omega) ok [m.instrs[i].name] (by simp; omega)
  have hI := fun ok => zwd m hm.b h1 h2 hr hb m.instrs[i] (hm.i _ hx) ok
  simp only [ckN, List.length_cons, List.length_nil, List.map_cons, List.map_nil, Nat.zero_add, zaf] at L hI
  rw [zc7 h]
  cases ok with
  | false => simp (maxSteps := 1000000) -implicitDefEqProofs only [↓reduceIte, ↓cond_true, ↓cond_false, sr1, sr2, kA, seval, d45, zla, n45, zlf, e45, dlt_t h, ix_sl zab h, zaf]
  | true => simp (maxSteps := 1000000) -implicitDefEqProofs only [↓reduceIte, ↓cond_true, ↓cond_false, sr1, sr2, kA, seval, d45, zla, n45, zlf, e45, dlt_t h, wi_nat (show i < 2 ^ 62 by omega), ix_sl zab h, zaf, zds, zjy _ (hm.s.i _ hx), hI, L, Bool.and_assoc, zho]
 ·have e : m.instrs.length = i := by omega
  simp (maxSteps := 1000000) -implicitDefEqProofs only [↓reduceIte, ↓cond_true, ↓cond_false, sr1, sr2, kA, seval, d45, zla, n45, zlf, e45, e, List.drop_length, show m.instrs.drop i = [] by rw [← e, List.drop_length], zcg]
theorem yasv (m : MMach) (i : Nat) (hi : i = 0) :
  lim (some [3]) 0 (blk 0 (om Tryz.prog ⟨45, none⟩ 0 (.loop (lpb Tryz.f45 0)) ⟨⟨63, [(3, .ptr 0 0), (4, .ptr 1 0), (37, .rsl (slA m.pi m.instrs) m.pi.cap 9 (m.instrs.map zaf)), (38, .int .i64 m.instrs.length), (39, .int .i64 i)]⟩, [], ck0 m false⟩)) = some (.normal, ⟨⟨63, [(3, .ptr 0 0)]⟩, [], ckH m false⟩) := by
 by_cases h : i < m.instrs.length <;> rw [zae]
 ·simp (maxSteps := 1000000) -implicitDefEqProofs only [↓reduceIte, ↓cond_true, ↓cond_false, sr1, sr2, kA, seval, d45, zla, n45, zlf, e45, dlt_t h, ix_sl zab h, zaf]
 ·have e : m.instrs.length = i := by omega
  simp (maxSteps := 1000000) -implicitDefEqProofs only [↓reduceIte, ↓cond_true, ↓cond_false, sr1, sr2, kA, seval, d45, zla, n45, zlf, e45, e]
def preB (m : MMach) : Bool := (zbm m.name && (inR m.word 1 4 && (decide (m.address = 16) || decide (m.address = 32)))) && (zhx m && (zev m && goodB.unitsB m))
theorem zi1 (m : MMach) : goodB m = (preB m && zi5 m) := by
 unfold goodB preB; simp only [Bool.and_assoc]
theorem zj2 (m : MMach) (hm : MOk m) : zaq Tryz.prog (om Tryz.prog) 45 [zac m] ⟨0, []⟩ = some (.int .i64 (zb1 m), ⟨0, []⟩) := by
 have hs := yaii m hm.b
 have hn := zoz m.name hm.n
 have hR := fun ok => yamq m hm.b hm.s ok
 have hBk := fun ok => yaey m hm.b hm.s ok
 have hU := fun ok => yai8 m hm.b hm.s ok
 simp only [zac, zad] at hs
 have eu : (decide (0 < (m.units.length : Int)) && zcg MUn.name znr m.units []) = goodB.unitsB m := rfl
 rw [eu] at hU
 rw [yaxa _ _ (by simp)]
 cases hc : zk2 m with
 | false => simp (maxSteps := 1000000) -implicitDefEqProofs only [↓reduceIte, ↓cond_true, ↓cond_false, sr1, sr2, kA, seval, d45, zla, n45, zlf, e45, zac, zad, hs, hc, zb1]
 | true =>
  cases hp : preB m with
  | false =>
   have L := yasv m 0 rfl
   have hg : goodB m = false := by rw [zi1, hp]; rfl
   have hp' := hp
   unfold preB at hp'
   simp only [Int.natCast_zero] at L
   cases ha : decide (m.address = 16) with
   | true =>
    simp only [ha, Bool.true_or, Bool.and_assoc, Bool.and_true] at hp'
    simp (maxSteps := 1000000) -implicitDefEqProofs only [↓reduceIte, ↓cond_true, ↓cond_false, sr1, sr2, kA, seval, d45, zla, n45, zlf, e45, zac, zad, hs, hc, hn, zal, ha, zrv, hR, hBk, hU, hp', L, zb1, hg, Bool.and_assoc]
   | false =>
    simp only [ha, Bool.false_or, Bool.and_assoc] at hp'
    simp (maxSteps := 1000000) -implicitDefEqProofs only [↓reduceIte, ↓cond_true, ↓cond_false, sr1, sr2, kA, seval, d45, zla, n45, zlf, e45, zac, zad, hs, hc, hn, zal, ha, zrv, hR, hBk, hU, hp', L, zb1, hg, Bool.and_assoc]
  | true =>
   have hp2 := hp
   unfold preB at hp2
   simp only [Bool.and_eq_true] at hp2
   obtain ⟨⟨q1, q2, q3⟩, q4, q5, q6⟩ := hp2
   have hw : 1 ≤ m.word ∧ m.word ≤ 4 := by simpa [inR] using q2
   have L := yasu m hm hw.1 hw.2 q4 q5 true 0 rfl
   have hg : goodB m = zi5 m := by rw [zi1, hp]; rfl
   have ei : zcg MInstr.name (zia m) m.instrs [] = zi5 m := rfl
   simp only [Int.natCast_zero, List.drop_zero, ei] at L
   cases ha : decide (m.address = 16) with
   | true =>
    cases hi : zi5 m with
    | true =>
     rw [hi] at L
     simp (maxSteps := 1000000) -implicitDefEqProofs only [↓reduceIte, ↓cond_true, ↓cond_false, sr1, sr2, kA, seval, d45, zla, n45, zlf, e45, zac, zad, hs, hc, hn, q1, q2, q4, q5, q6, zal, ha, zrv, hR, hBk, hU, L, zb1, hg, hi]
    | false =>
     rw [hi] at L
     simp (maxSteps := 1000000) -implicitDefEqProofs only [↓reduceIte, ↓cond_true, ↓cond_false, sr1, sr2, kA, seval, d45, zla, n45, zlf, e45, zac, zad, hs, hc, hn, q1, q2, q4, q5, q6, zal, ha, zrv, hR, hBk, hU, L, zb1, hg, hi]
   | false =>
    rw [ha, Bool.false_or] at q3
    cases hi : zi5 m with
    | true =>
     rw [hi] at L
     simp (maxSteps := 1000000) -implicitDefEqProofs only [↓reduceIte, ↓cond_true, ↓cond_false, sr1, sr2, kA, seval, d45, zla, n45, zlf, e45, zac, zad, hs, hc, hn, q1, q2, q3, q4, q5, q6, zal, ha, zrv, hR, hBk, hU, L, zb1, hg, hi]
    | false =>
     rw [hi] at L
     simp (maxSteps := 1000000) -implicitDefEqProofs only [↓reduceIte, ↓cond_true, ↓cond_false, sr1, sr2, kA, seval, d45, zla, n45, zlf, e45, zac, zad, hs, hc, hn, q1, q2, q3, q4, q5, q6, zal, ha, zrv, hR, hBk, hU, L, zb1, hg, hi]
def eqN {α : Type} (nm : α → ByteArray) (us : List α) (i k : Nat) : Bool := match us[k]?, us[i]? with | some v, some u => decide (nm v = nm u) | _, _ => false
theorem zlu {α : Type} {nm : α → ByteArray} {us : List α} {i k : Nat} (hk : k < us.length) (hi : i < us.length) : eqN nm us i k = decide (nm us[k] = nm us[i]) := by
 simp only [eqN, List.getElem?_eq_getElem hk, List.getElem?_eq_getElem hi]
def zwp {α : Type} (nm : α → ByteArray) (us : List α) (i : Nat) : Bool := zb9 (fun k => !eqN nm us i k) 0 i
def zug {α : Type} (nm : α → ByteArray) (q : Nat → α → Bool) (us : List α) (i : Nat) : Bool := atI us (fun u => zbm (nm u) && q i u) i && zwp nm us i
theorem znk {α : Type} {nm : α → ByteArray} {q : Nat → α → Bool} {us : List α} {i : Nat} (h : i < us.length) : zug nm q us i = ((zbm (nm us[i]) && q i us[i]) && zwp nm us i) := by
 simp only [zug, atI, List.getElem?_eq_getElem h]
theorem zo3 {α : Type} {nm : α → ByteArray} {q : Nat → α → Bool} {us : List α} : zb9 (zug nm q us) 0 us.length = seqF nm q 0 us [] := by
 rw [yaby, Bool.eq_iff_iff, zbe, zbe]
 have key : ∀ j, j < us.length → zug nm q us j = (atI us (fun u => zbm (nm u) && q j u && !zn3 [] (nm u)) j && newI nm us j) := by
  intro j hj
  simp only [zug, atI, newI, zwp, List.getElem?_eq_getElem hj, zho, Bool.not_false, Bool.and_true]
  congr 1
  rw [Bool.eq_iff_iff, zbe, zbe]
  constructor
  ·intro h k _ hk
   have := h k (Nat.zero_le _) hk
   rw [zlu (show k < us.length by omega) hj] at this
   rw [List.getElem?_eq_getElem (show k < us.length by omega)]
   exact this
  ·intro h k _ hk
   have := h k (Nat.zero_le _) hk
   rw [List.getElem?_eq_getElem (show k < us.length by omega)] at this
   rw [zlu (show k < us.length by omega) hj]
   exact this
 exact ⟨fun h j hj hn => by rw [← key j hn]; exact h j hj hn, fun h j hj hn => by rw [key j hn]; exact h j hj hn⟩
theorem yadg (m : MMach) (hB : Bd m) (i : Nat) (hi : i < m.units.length) : ∀ k, k ≤ i → lim (some [1, 3]) 0 (blk 2 (om Tryz.prog ⟨81, none⟩ 0 (.loop (lpb Tryz.f81 1)) ⟨⟨52, [(1, .ptr 0 0), (3, .int .i64 i), (4, .int .i64 k)]⟩, [], zeh m⟩)) =
  bif zb9 (fun k => !eqN MUn.name m.units i k) k i then some (.normal, ⟨⟨52, [(1, .ptr 0 0), (3, .int .i64 i)]⟩, [], zeh m⟩) else some (.ret, ⟨⟨52, [(2, .bool false)]⟩, [], ⟨0, []⟩⟩) := by
 have hu := hB.u
 refine zb8 ?_ (fun k h ih => ?_) <;> rw [zae]
 ·simp (maxSteps := 1000000) -implicitDefEqProofs only [↓reduceIte, ↓cond_true, ↓cond_false, sr1, sr2, kA, seval, d81, zrp, n81, e81, zba]
 ·have hk : k < m.units.length := by omega
  rw [zc5 h, zlu hk hi]
  cases hn : decide (m.units[k].name = m.units[i].name) with
  | true => simp (maxSteps := 1000000) -implicitDefEqProofs only [↓reduceIte, ↓cond_true, ↓cond_false, sr1, sr2, kA, seval, d81, zrp, n81, e81, dlt_t h, wi_nat (show k < 2 ^ 62 by omega), ix_sl zab hk, ix_sl zab hi, unV, hn]
  | false => simp (maxSteps := 1000000) -implicitDefEqProofs only [↓reduceIte, ↓cond_true, ↓cond_false, sr1, sr2, kA, seval, d81, zrp, n81, e81, dlt_t h, wi_nat (show k < 2 ^ 62 by omega), ix_sl zab hk, ix_sl zab hi, unV, hn, ih]
theorem yadf (m : MMach) (hB : Bd m) (hS : Sd m) : ∀ i, i ≤ m.units.length → lim (some [1]) 0 (blk 0 (om Tryz.prog ⟨81, none⟩ 0 (.loop (lpb Tryz.f81 0)) ⟨⟨52, [(1, .ptr 0 0), (3, .int .i64 i)]⟩, [], zeh m⟩)) =
  bif zb9 (zug MUn.name (fun _ => znr) m.units) i m.units.length then some (.normal, ⟨⟨52, [(1, .ptr 0 0)]⟩, [], zeh m⟩) else some (.ret, ⟨⟨52, [(2, .bool false)]⟩, [], ⟨0, []⟩⟩) := by
 have hu := hB.u
 refine zb8 ?_ (fun i h ih => ?_) <;> rw [zae]
 ·simp (maxSteps := 1000000) -implicitDefEqProofs only [↓reduceIte, ↓cond_true, ↓cond_false, sr1, sr2, kA, seval, d81, zrp, n81, e81, zba]
 ·have L := yadg m hB i h 0 (Nat.zero_le _)
  have ej : zb9 (fun k => !eqN MUn.name m.units i k) 0 i = zwp MUn.name m.units i := rfl
  rw [ej] at L
  simp only [Int.natCast_zero] at L
  rw [zbr h, znk h]
  have hn := zed m.units[i].name (hS.u _ (List.getElem_mem h))
  cases h1 : zbm m.units[i].name with
  | false => simp (maxSteps := 1000000) -implicitDefEqProofs only [↓reduceIte, ↓cond_true, ↓cond_false, sr1, sr2, kA, seval, d81, zrp, n81, e81, dlt_t h, ix_sl zab h, unV, hn, h1]
  | true =>
   cases h2 : inR m.units[i].count 1 4 with
   | false => simp (maxSteps := 1000000) -implicitDefEqProofs only [↓reduceIte, ↓cond_true, ↓cond_false, sr1, sr2, kA, seval, d81, zrp, n81, e81, dlt_t h, ix_sl zab h, unV, hn, h1, za3, h2, znr]
   | true =>
    cases h3 : zwp MUn.name m.units i with
    | false =>
     rw [h3] at L
     simp (maxSteps := 1000000) -implicitDefEqProofs only [↓reduceIte, ↓cond_true, ↓cond_false, sr1, sr2, kA, seval, d81, zrp, n81, e81, dlt_t h, ix_sl zab h, unV, hn, h1, za3, h2, znr, L]
    | true =>
     rw [h3] at L
     simp (maxSteps := 1000000) -implicitDefEqProofs only [↓reduceIte, ↓cond_true, ↓cond_false, sr1, sr2, kA, seval, d81, zrp, n81, e81, dlt_t h, wi_nat (show i < 2 ^ 62 by omega), ix_sl zab h, unV, hn, h1, za3, h2, znr, L, ih]
theorem yai7 {m : MMach} : (zb9 (zug MUn.name (fun _ => znr) m.units) 0 m.units.length && decide (0 < (m.units.length : Int))) = goodB.unitsB m := by
 unfold goodB.unitsB
 rw [zo3, ← zeq (i := 0), Bool.and_comm]
theorem zyr (m : MMach) (hB : Bd m) (hS : Sd m) : zaq Tryz.prog (om Tryz.prog) 81 [zac m] ⟨0, []⟩ = some (.bool (goodB.unitsB m), ⟨0, []⟩) := by
 have L := yadf m hB hS 0 (Nat.zero_le _)
 rw [← yai7]
 simp only [Int.natCast_zero] at L
 rw [yaxw _ _ (by simp)]
 cases h : zb9 (zug MUn.name (fun _ => znr) m.units) 0 m.units.length with
 | true =>
  rw [h] at L
  simp (maxSteps := 1000000) -implicitDefEqProofs only [↓reduceIte, ↓cond_true, ↓cond_false, sr1, sr2, kA, seval, d81, zrp, n81, e81, zac, zad, L]
 | false =>
  rw [h] at L
  simp (maxSteps := 1000000) -implicitDefEqProofs only [↓reduceIte, ↓cond_true, ↓cond_false, sr1, sr2, kA, seval, d81, zrp, n81, e81, zac, zad, L]
abbrev regC (r : MReg) : List AV := [.str r.name, .int .i64 r.width, .int .i64 r.of_, .int .i64 r.low]
abbrev rgH (m : MMach) (r : MReg) : Heap := ⟨2, [some (.cells 27 (zad m)), some (.cells 137 (regC r))]⟩
theorem yag6 (m : MMach) (hB : Bd m) (i : Nat) (hi : i < m.regs.length) : ∀ k, k ≤ i → lim (some [1, 3, 4]) 0 (blk 2 (om Tryz.prog ⟨79, none⟩ 0 (.loop (lpb Tryz.f79 1)) ⟨⟨94, [(1, .ptr 0 0), (3, .int .i64 i), (4, .ptr 1 0), (5, .int .i64 k)]⟩, [], rgH m m.regs[i]⟩)) =
  bif zb9 (fun k => !eqN MReg.name m.regs i k) k i then some (.normal, ⟨⟨94, [(1, .ptr 0 0), (3, .int .i64 i), (4, .ptr 1 0)]⟩, [], rgH m m.regs[i]⟩) else some (.ret, ⟨⟨94, [(2, .bool false)]⟩, [], ⟨0, []⟩⟩) := by
 have hu := hB.r
 refine zb8 ?_ (fun k h ih => ?_) <;> rw [zae]
 ·simp (maxSteps := 1000000) -implicitDefEqProofs only [↓reduceIte, ↓cond_true, ↓cond_false, sr1, sr2, kA, seval, d79, ze4, n79, zkd, e79, zba]
 ·have hk : k < m.regs.length := by omega
  rw [zc5 h, zlu hk hi]
  cases hn : decide (m.regs[k].name = m.regs[i].name) with
  | true => simp (maxSteps := 1000000) -implicitDefEqProofs only [↓reduceIte, ↓cond_true, ↓cond_false, sr1, sr2, kA, seval, d79, ze4, n79, zkd, e79, dlt_t h, wi_nat (show k < 2 ^ 62 by omega), ix_sl zab hk, zei, hn]
  | false => simp (maxSteps := 1000000) -implicitDefEqProofs only [↓reduceIte, ↓cond_true, ↓cond_false, sr1, sr2, kA, seval, d79, ze4, n79, zkd, e79, dlt_t h, wi_nat (show k < 2 ^ 62 by omega), ix_sl zab hk, zei, hn, ih]
theorem yag5 (m : MMach) (hB : Bd m) (hS : Sd m) : ∀ i, i ≤ m.regs.length → lim (some [1]) 0 (blk 0 (om Tryz.prog ⟨79, none⟩ 0 (.loop (lpb Tryz.f79 0)) ⟨⟨94, [(1, .ptr 0 0), (3, .int .i64 i)]⟩, [], zeh m⟩)) =
  bif zb9 (zug MReg.name (fun _ => zrh m) m.regs) i m.regs.length then some (.normal, ⟨⟨94, [(1, .ptr 0 0)]⟩, [], zeh m⟩) else some (.ret, ⟨⟨94, [(2, .bool false)]⟩, [], ⟨0, []⟩⟩) := by
 have hu := hB.r
 refine zb8 ?_ (fun i h ih => ?_) <;> rw [zae]
 ·simp (maxSteps := 1000000) -implicitDefEqProofs only [↓reduceIte, ↓cond_true, ↓cond_false, sr1, sr2, kA, seval, d79, ze4, n79, zkd, e79, zba]
 ·have L := yag6 m hB i h 0 (Nat.zero_le _)
  have ej : zb9 (fun k => !eqN MReg.name m.regs i k) 0 i = zwp MReg.name m.regs i := rfl
  rw [ej] at L
  simp only [Int.natCast_zero] at L
  rw [zbr h, znk h]
  have hn := zed m.regs[i].name (hS.r _ (List.getElem_mem h))
  cases h1 : zbm m.regs[i].name with
  | false => simp (maxSteps := 1000000) -implicitDefEqProofs only [↓reduceIte, ↓cond_true, ↓cond_false, sr1, sr2, kA, seval, d79, ze4, n79, zkd, e79, dlt_t h, ix_sl zab h, zei, hn, h1]
  | true =>
   cases h2 : inR m.regs[i].width 1 64 with
   | false => simp (maxSteps := 1000000) -implicitDefEqProofs only [↓reduceIte, ↓cond_true, ↓cond_false, sr1, sr2, kA, seval, d79, ze4, n79, zkd, e79, dlt_t h, ix_sl zab h, zei, hn, h1, za3, h2, zrh]
   | true =>
    cases h3 : zwp MReg.name m.regs i with
    | false =>
     rw [h3] at L
     simp (maxSteps := 1000000) -implicitDefEqProofs only [↓reduceIte, ↓cond_true, ↓cond_false, sr1, sr2, kA, seval, d79, ze4, n79, zkd, e79, dlt_t h, ix_sl zab h, zei, hn, h1, za3, h2, L]
    | true =>
     rw [h3] at L
     cases hA : decide (m.regs[i].of_ = -1) with
     | true =>
      cases hl : decide (m.regs[i].low = 0) with
      | true => simp (maxSteps := 1000000) -implicitDefEqProofs only [↓reduceIte, ↓cond_true, ↓cond_false, sr1, sr2, kA, seval, d79, ze4, n79, zkd, e79, dlt_t h, wi_nat (show i < 2 ^ 62 by omega), ix_sl zab h, zei, hn, h1, za3, h2, zrh, L, ih, hA, hl]
      | false => simp (maxSteps := 1000000) -implicitDefEqProofs only [↓reduceIte, ↓cond_true, ↓cond_false, sr1, sr2, kA, seval, d79, ze4, n79, zkd, e79, dlt_t h, ix_sl zab h, zei, hn, h1, za3, h2, zrh, L, hA, hl]
     | false =>
      cases hI : inR m.regs[i].of_ 0 ((m.regs.length : Int) - 1) with
      | false => simp (maxSteps := 1000000) -implicitDefEqProofs only [↓reduceIte, ↓cond_true, ↓cond_false, sr1, sr2, kA, seval, d79, ze4, n79, zkd, e79, dlt_t h, ix_sl zab h, zei, hn, h1, za3, h2, zrh, L, hA, zas hu, hI]
      | true =>
       obtain ⟨z0, z1⟩ := zd7 hI
       generalize hroot : m.regs[m.regs[i].of_.toNat] = root
       have eg : m.regs[m.regs[i].of_.toNat]? = some root := by rw [List.getElem?_eq_getElem z1, hroot]
       have ez := ix_z (k := .i64) (f := zei) (sz := 4) (c := m.pr.cap) (zab (p := m.pr) (f := zei)) z0 z1
       rw [hroot] at ez
       have e5 : decide (root.width ≤ m.regs[i].width) = !decide (m.regs[i].width < root.width) := zbg
       cases d1 : decide (root.of_ = -1) with
       | false => simp (maxSteps := 1000000) -implicitDefEqProofs only [↓reduceIte, ↓cond_true, ↓cond_false, sr1, sr2, kA, seval, d79, ze4, n79, zkd, e79, dlt_t h, ix_sl zab h, ez, zei, hn, h1, za3, h2, zrh, L, hA, zas hu, hI, eg, d1, zuj]
       | true =>
        cases d2 : decide (m.regs[i].width < root.width) with
        | false => simp (maxSteps := 1000000) -implicitDefEqProofs only [↓reduceIte, ↓cond_true, ↓cond_false, sr1, sr2, kA, seval, d79, ze4, n79, zkd, e79, dlt_t h, ix_sl zab h, ez, zei, hn, h1, za3, h2, zrh, L, hA, zas hu, hI, eg, d1, d2, e5, zuj]
        | true =>
         cases d3 : inR root.width 1 64 with
         | false => simp (maxSteps := 1000000) -implicitDefEqProofs only [↓reduceIte, ↓cond_true, ↓cond_false, sr1, sr2, kA, seval, d79, ze4, n79, zkd, e79, dlt_t h, ix_sl zab h, ez, zei, hn, h1, za3, h2, zrh, L, hA, zas hu, hI, eg, d1, d2, d3, e5, zuj]
         | true => simp (maxSteps := 1000000) -implicitDefEqProofs only [↓reduceIte, ↓cond_true, ↓cond_false, sr1, sr2, kA, seval, d79, ze4, n79, zkd, e79, dlt_t h, wi_nat (show i < 2 ^ 62 by omega), ix_sl zab h, ez, zei, hn, h1, za3, h2, zrh, L, ih, hA, zas hu, hI, eg, d1, d2, d3, e5, zuj, yakl]
theorem yamp {m : MMach} : (zb9 (zug MReg.name (fun _ => zrh m) m.regs) 0 m.regs.length && decide (0 < (m.regs.length : Int))) = zhx m := by
 unfold zhx
 rw [zo3, ← zeq (i := 0), Bool.and_comm]
theorem yade (m : MMach) (hB : Bd m) (hS : Sd m) : zaq Tryz.prog (om Tryz.prog) 79 [zac m] ⟨0, []⟩ = some (.bool (zhx m), ⟨0, []⟩) := by
 have L := yag5 m hB hS 0 (Nat.zero_le _)
 rw [← yamp]
 simp only [Int.natCast_zero] at L
 rw [yaxu _ _ (by simp)]
 cases h : zb9 (zug MReg.name (fun _ => zrh m) m.regs) 0 m.regs.length with
 | true =>
  rw [h] at L
  simp (maxSteps := 1000000) -implicitDefEqProofs only [↓reduceIte, ↓cond_true, ↓cond_false, sr1, sr2, kA, seval, d79, ze4, n79, zkd, e79, zac, zad, L]
 | false =>
  rw [h] at L
  simp (maxSteps := 1000000) -implicitDefEqProofs only [↓reduceIte, ↓cond_true, ↓cond_false, sr1, sr2, kA, seval, d79, ze4, n79, zkd, e79, zac, zad, L]
abbrev bgH (m : MMach) (b : MBank) : Heap := ⟨2, [some (.cells 27 (zad m)), some (.cells 109 [.str b.name, .rsl (slA b.p b.regs) b.p.cap 1 (b.regs.map zdt)])]⟩
theorem yac7 (m : MMach) (hB : Bd m) (i : Nat) (hi : i < m.banks.length) : ∀ k, k ≤ i → lim (some [1, 3, 4]) 0 (blk 2 (om Tryz.prog ⟨80, none⟩ 0 (.loop (lpb Tryz.f80 1)) ⟨⟨98, [(1, .ptr 0 0), (3, .int .i64 i), (4, .ptr 1 0), (5, .int .i64 k)]⟩, [], bgH m m.banks[i]⟩)) =
  bif zb9 (fun k => !eqN MBank.name m.banks i k) k i then some (.normal, ⟨⟨98, [(1, .ptr 0 0), (3, .int .i64 i), (4, .ptr 1 0)]⟩, [], bgH m m.banks[i]⟩) else some (.ret, ⟨⟨98, [(2, .bool false)]⟩, [], ⟨0, []⟩⟩) := by
 have hu := hB.b
 refine zb8 ?_ (fun k h ih => ?_) <;> rw [zae]
 ·simp (maxSteps := 1000000) -implicitDefEqProofs only [↓reduceIte, ↓cond_true, ↓cond_false, sr1, sr2, kA, seval, d80, zd2, zd3, zd4, zd5, n80, zhs, e80, zba]
 ·have hk : k < m.banks.length := by omega
  rw [zc5 h, zlu hk hi]
  cases hn : decide (m.banks[k].name = m.banks[i].name) with
  | true => simp (maxSteps := 1000000) -implicitDefEqProofs only [↓reduceIte, ↓cond_true, ↓cond_false, sr1, sr2, kA, seval, d80, zd2, zd3, zd4, zd5, n80, zhs, e80, dlt_t h, wi_nat (show k < 2 ^ 62 by omega), ix_sl zab hk, zem, hn]
  | false => simp (maxSteps := 1000000) -implicitDefEqProofs only [↓reduceIte, ↓cond_true, ↓cond_false, sr1, sr2, kA, seval, d80, zd2, zd3, zd4, zd5, n80, zhs, e80, dlt_t h, wi_nat (show k < 2 ^ 62 by omega), ix_sl zab hk, zem, hn, ih]
def newR (l : List Int) (i : Nat) : Bool := zb9 (fun k => !decide (l.getD k 0 = l.getD i 0)) 0 i
theorem yal9 {l : List Int} {i : Nat} (hi : i < l.length) : newR l i = !hasI (l.take i) (l.getD i 0) := by
 unfold newR hasI
 rw [Bool.eq_iff_iff, zbe, Bool.not_eq_true', List.any_eq_false]
 constructor
 ·intro h x hx
  obtain ⟨k, hk, rfl⟩ := List.getElem_of_mem hx
  rw [List.length_take] at hk
  have := h k (Nat.zero_le _) (by omega)
  rw [zcq (show k < l.length by omega)] at this
  have this' : ¬ l[k] = l.getD i 0 := by simpa using this
  simp only [List.getElem_take]
  intro q
  exact this' (of_decide_eq_true q).symm
 ·intro h k _ hk
  have hk2 : k < l.length := by omega
  have := h l[k] (by rw [List.mem_take_iff_getElem]; exact ⟨k, by omega, rfl⟩)
  rw [zcq hk2, Bool.not_eq_true', decide_eq_false_iff_not]
  intro q
  exact this (decide_eq_true q.symm)
theorem yac9 (m : MMach) (i : Nat) (b : MBank) (hb : b.regs.length < 1000000) (j : Nat) (hj : j < b.regs.length) : ∀ k, k ≤ j → lim (some [1, 3, 4, 6]) 0 (blk 6 (om Tryz.prog ⟨80, none⟩ 0 (.loop (lpb Tryz.f80 3)) ⟨⟨98, [(1, .ptr 0 0), (3, .int .i64 i), (4, .ptr 1 0), (6, .int .i64 j), (7, .int .i64 k)]⟩, [], bgH m b⟩)) =
  bif zb9 (fun k => !decide (b.regs.getD k 0 = b.regs.getD j 0)) k j then some (.normal, ⟨⟨98, [(1, .ptr 0 0), (3, .int .i64 i), (4, .ptr 1 0), (6, .int .i64 j)]⟩, [], bgH m b⟩) else some (.ret, ⟨⟨98, [(2, .bool false)]⟩, [], ⟨0, []⟩⟩) := by
 refine zb8 ?_ (fun k h ih => ?_) <;> rw [zae]
 ·simp (maxSteps := 1000000) -implicitDefEqProofs only [↓reduceIte, ↓cond_true, ↓cond_false, sr1, sr2, kA, seval, d80, zd2, zd3, zd4, zd5, n80, zhs, e80, zba]
 ·have hk : k < b.regs.length := by omega
  rw [zc5 h]
  have e1 := zcq hk
  have e2 := zcq hj
  cases hn : decide (b.regs[k] = b.regs[j]) with
  | true => simp (maxSteps := 1000000) -implicitDefEqProofs only [↓reduceIte, ↓cond_true, ↓cond_false, sr1, sr2, kA, seval, d80, zd2, zd3, zd4, zd5, n80, zhs, e80, dlt_t h, wi_nat (show k < 2 ^ 62 by omega), ix_sl zab hk, ix_sl zab hj, zdt, hn, e1, e2]
  | false => simp (maxSteps := 1000000) -implicitDefEqProofs only [↓reduceIte, ↓cond_true, ↓cond_false, sr1, sr2, kA, seval, d80, zd2, zd3, zd4, zd5, n80, zhs, e80, dlt_t h, wi_nat (show k < 2 ^ 62 by omega), ix_sl zab hk, ix_sl zab hj, zdt, hn, e1, e2, ih]
theorem yac8 (m : MMach) (hB : Bd m) (i : Nat) (b : MBank) (hb : b.regs.length < 1000000) : ∀ j, j ≤ b.regs.length → (0 < j → inR (b.regs.getD 0 0) 0 ((m.regs.length : Int) - 1) = true) → lim (some [1, 3]) 0 (blk 4 (om Tryz.prog ⟨80, none⟩ 0 (.loop (lpb Tryz.f80 2)) ⟨⟨98, [(1, .ptr 0 0), (3, .int .i64 i), (4, .ptr 1 0), (6, .int .i64 j)]⟩, [], bgH m b⟩)) =
  bif zb9 (zvb m b.regs) j b.regs.length then some (.normal, ⟨⟨98, [(1, .ptr 0 0), (3, .int .i64 i)]⟩, [], zeh m⟩) else some (.ret, ⟨⟨98, [(2, .bool false)]⟩, [], ⟨0, []⟩⟩) := by
 have hu := hB.r
 refine zb8 (fun h0 => ?_) (fun j h ih h0 => ?_) <;> rw [zae]
 ·simp (maxSteps := 1000000) -implicitDefEqProofs only [↓reduceIte, ↓cond_true, ↓cond_false, sr1, sr2, kA, seval, d80, zd2, zd3, zd4, zd5, n80, zhs, e80, zba]
 ·have L := yac9 m i b hb j h 0 (Nat.zero_le _)
  have ej : zb9 (fun k => !decide (b.regs.getD k 0 = b.regs.getD j 0)) 0 j = newR b.regs j := rfl
  rw [ej] at L
  simp only [Int.natCast_zero] at L
  have hw : m.regs.length < 1000000 := hu
  have e2 := zcq h
  have eP : zvb m b.regs j = (inR b.regs[j] 0 ((m.regs.length : Int) - 1) && newR b.regs j && decide (ze3 m b.regs[j] = ze3 m (b.regs.getD 0 0))) := by
   unfold zvb; rw [← yal9 h, e2]
  rw [zbr h, eP]
  cases hI : inR b.regs[j] 0 ((m.regs.length : Int) - 1) with
  | false => simp (maxSteps := 1000000) -implicitDefEqProofs only [↓reduceIte, ↓cond_true, ↓cond_false, sr1, sr2, kA, seval, d80, zd2, zd3, zd4, zd5, n80, zhs, e80, dlt_t h, ix_sl zab h, zdt, zas hw, za3, hI]
  | true =>
   cases hN : newR b.regs j with
   | false =>
    rw [hN] at L
    simp (maxSteps := 1000000) -implicitDefEqProofs only [↓reduceIte, ↓cond_true, ↓cond_false, sr1, sr2, kA, seval, d80, zd2, zd3, zd4, zd5, n80, zhs, e80, dlt_t h, ix_sl zab h, zdt, zas hw, za3, hI, L]
   | true =>
    rw [hN] at L
    have hz : 0 < b.regs.length := by omega
    have hI0 : inR (b.regs.getD 0 0) 0 ((m.regs.length : Int) - 1) = true := by
     by_cases q : j = 0
     ·subst q; rw [e2]; exact hI
     ·exact h0 (by omega)
    have e3 := zcq hz
    rw [e3] at hI0 ⊢
    obtain ⟨z0, z1⟩ := zd7 hI
    obtain ⟨y0, y1⟩ := zd7 hI0
    have x0 := ix_sl (k := .i64) (f := zdt) (sz := 1) (c := b.p.cap) (zab (p := b.p) (f := zdt)) hz
    simp only [Int.natCast_zero] at x0
    have ih' := ih (fun _ => by rw [e3]; exact hI0)
    have w1 := zcf z1
    have w2 := zcf y1
    cases hW : decide (m.regs[b.regs[j].toNat].width = m.regs[b.regs[0].toNat].width) with
    | true => simp (maxSteps := 1000000) -implicitDefEqProofs only [↓reduceIte, ↓cond_true, ↓cond_false, sr1, sr2, kA, seval, d80, zd2, zd3, zd4, zd5, n80, zhs, e80, dlt_t h, wi_nat (show j < 2 ^ 62 by omega), ix_sl zab h, x0, ix_z zab z0 z1, ix_z zab y0 y1, zdt, zei, zas hw, za3, hI, L, w1, w2, hW, ih']
    | false => simp (maxSteps := 1000000) -implicitDefEqProofs only [↓reduceIte, ↓cond_true, ↓cond_false, sr1, sr2, kA, seval, d80, zd2, zd3, zd4, zd5, n80, zhs, e80, dlt_t h, ix_sl zab h, x0, ix_z zab z0 z1, ix_z zab y0 y1, zdt, zei, zas hw, za3, hI, L, w1, w2, hW]
theorem yac6 (m : MMach) (hB : Bd m) (hS : Sd m) : ∀ i, i ≤ m.banks.length → lim (some []) 0 (blk 0 (om Tryz.prog ⟨80, none⟩ 0 (.loop (lpb Tryz.f80 0)) ⟨⟨98, [(1, .ptr 0 0), (3, .int .i64 i)]⟩, [], zeh m⟩)) =
  bif zb9 (zug MBank.name (fun _ => zpi m) m.banks) i m.banks.length then some (.normal, ⟨⟨98, []⟩, [], ⟨0, []⟩⟩) else some (.ret, ⟨⟨98, [(2, .bool false)]⟩, [], ⟨0, []⟩⟩) := by
 have hu := hB.b
 refine zb8 ?_ (fun i h ih => ?_) <;> rw [zae]
 ·simp (maxSteps := 1000000) -implicitDefEqProofs only [↓reduceIte, ↓cond_true, ↓cond_false, sr1, sr2, kA, seval, d80, zd2, zd3, zd4, zd5, n80, zhs, e80, zba]
 ·have L := yac7 m hB i h 0 (Nat.zero_le _)
  have M := yac8 m hB i m.banks[i] (hB.br _ (List.getElem_mem h)) 0 (Nat.zero_le _) (fun q => absurd q (by omega))
  have ej : zb9 (fun k => !eqN MBank.name m.banks i k) 0 i = zwp MBank.name m.banks i := rfl
  rw [ej] at L
  simp only [Int.natCast_zero] at L M
  rw [zbr h, znk h]
  have hn := zed m.banks[i].name (hS.b _ (List.getElem_mem h))
  cases h1 : zbm m.banks[i].name with
  | false => simp (maxSteps := 1000000) -implicitDefEqProofs only [↓reduceIte, ↓cond_true, ↓cond_false, sr1, sr2, kA, seval, d80, zd2, zd3, zd4, zd5, n80, zhs, e80, dlt_t h, ix_sl zab h, zem, hn, h1]
  | true =>
   have en : decide (0 < (m.banks[i].regs.length : Int)) = !decide ((m.banks[i].regs.length : Int) = 0) := by
    by_cases q : (m.banks[i].regs.length : Int) = 0
    ·rw [q]; rfl
    ·rw [decide_eq_false q, decide_eq_true (show 0 < (m.banks[i].regs.length : Int) by omega)]; rfl
   cases h2 : decide ((m.banks[i].regs.length : Int) = 0) with
   | true => simp (maxSteps := 1000000) -implicitDefEqProofs only [↓reduceIte, ↓cond_true, ↓cond_false, sr1, sr2, kA, seval, d80, zd2, zd3, zd4, zd5, n80, zhs, e80, dlt_t h, ix_sl zab h, zem, hn, h1, h2, zpi, en]
   | false =>
    cases h3 : zwp MBank.name m.banks i with
    | false =>
     rw [h3] at L
     simp (maxSteps := 1000000) -implicitDefEqProofs only [↓reduceIte, ↓cond_true, ↓cond_false, sr1, sr2, kA, seval, d80, zd2, zd3, zd4, zd5, n80, zhs, e80, dlt_t h, ix_sl zab h, zem, hn, h1, h2, L]
    | true =>
     rw [h3] at L
     cases h4 : zb9 (zvb m m.banks[i].regs) 0 m.banks[i].regs.length with
     | false =>
      rw [h4] at M
      simp (maxSteps := 1000000) -implicitDefEqProofs only [↓reduceIte, ↓cond_true, ↓cond_false, sr1, sr2, kA, seval, d80, zd2, zd3, zd4, zd5, n80, zhs, e80, dlt_t h, ix_sl zab h, zem, hn, h1, h2, zpi, en, L, M, h4]
     | true =>
      rw [h4] at M
      simp (maxSteps := 1000000) -implicitDefEqProofs only [↓reduceIte, ↓cond_true, ↓cond_false, sr1, sr2, kA, seval, d80, zd2, zd3, zd4, zd5, n80, zhs, e80, dlt_t h, wi_nat (show i < 2 ^ 62 by omega), ix_sl zab h, zem, hn, h1, h2, zpi, en, L, M, h4, ih]
theorem yaex {m : MMach} : zb9 (zug MBank.name (fun _ => zpi m) m.banks) 0 m.banks.length = zev m := by
 unfold zev
 rw [zo3, ← zeq (i := 0)]
theorem zyo (m : MMach) (hB : Bd m) (hS : Sd m) : zaq Tryz.prog (om Tryz.prog) 80 [zac m] ⟨0, []⟩ = some (.bool (zev m), ⟨0, []⟩) := by
 have L := yac6 m hB hS 0 (Nat.zero_le _)
 rw [yaex] at L
 simp only [Int.natCast_zero] at L
 rw [yaxv _ _ (by simp)]
 cases h : zev m with
 | true =>
  rw [h] at L
  simp (maxSteps := 1000000) -implicitDefEqProofs only [↓reduceIte, ↓cond_true, ↓cond_false, sr1, sr2, kA, seval, d80, zd2, zd3, zd4, zd5, n80, zhs, e80, zac, zad, L]
 | false =>
  rw [h] at L
  simp (maxSteps := 1000000) -implicitDefEqProofs only [↓reduceIte, ↓cond_true, ↓cond_false, sr1, sr2, kA, seval, d80, zd2, zd3, zd4, zd5, n80, zhs, e80, zac, zad, L]
abbrev moH (m : MMach) (s : MInstr) (o : MOpd) : Heap := ⟨3, [some (.cells 27 (zad m)), some (.cells 113 (zi4 s)), some (.cells 116 (ya0k o))]⟩
theorem zyq (m : MMach) (s : MInstr) (hs : s.operands.length < 1000000) (i : Nat) (hi : i < s.operands.length) : ∀ k, k ≤ i → lim (some [2, 3, 4, 7]) 0 (blk 0 (om Tryz.prog ⟨131, none⟩ 0 (.loop (lpb Tryz.f131 0)) ⟨⟨152, [(2, .int .i64 i), (3, .ptr 0 0), (4, .ptr 1 0), (7, .ptr 2 0), (8, .int .i64 k)]⟩, [], moH m s s.operands[i]⟩)) =
  bif zb9 (fun k => !eqN MOpd.name s.operands i k) k i then some (.normal, ⟨⟨152, [(2, .int .i64 i), (3, .ptr 0 0), (4, .ptr 1 0), (7, .ptr 2 0)]⟩, [], moH m s s.operands[i]⟩) else some (.ret, ⟨⟨152, [(6, .bool false)]⟩, [], ⟨0, []⟩⟩) := by
 refine zb8 ?_ (fun k h ih => ?_) <;> rw [zae]
 ·simp (maxSteps := 1000000) -implicitDefEqProofs only [↓reduceIte, ↓cond_true, ↓cond_false, sr1, sr2, kA, seval, zrk, zdg, zck, zcl, zrw, zdh, zdi, zrl, zba]
 ·have hk : k < s.operands.length := by omega
  rw [zc5 h, zlu hk hi]
  cases hn : decide (s.operands[k].name = s.operands[i].name) with
  | true => simp (maxSteps := 1000000) -implicitDefEqProofs only [↓reduceIte, ↓cond_true, ↓cond_false, sr1, sr2, kA, seval, zrk, zdg, zck, zcl, zrw, zdh, zdi, zrl, dlt_t h, wi_nat (show k < 2 ^ 62 by omega), ix_sl zab hk, zbj, hn]
  | false => simp (maxSteps := 1000000) -implicitDefEqProofs only [↓reduceIte, ↓cond_true, ↓cond_false, sr1, sr2, kA, seval, zrk, zdg, zck, zcl, zrw, zdh, zdi, zrl, dlt_t h, wi_nat (show k < 2 ^ 62 by omega), ix_sl zab hk, zbj, hn, ih]
def zez (m : MMach) (s : MInstr) (i : Nat) (o : MOpd) : Bool := (zbm o.name && (!decide (o.name = pcN) && zmo m.word o)) && (zwp MOpd.name s.operands i && zc4 m s i o)
theorem yamy {n : Nat} (h : n ≤ 6) : shl1 (n : Int) = ((2 ^ n : Nat) : Int) := by
 rcases (show n = 0 ∨ n = 1 ∨ n = 2 ∨ n = 3 ∨ n = 4 ∨ n = 5 ∨ n = 6 by omega) with rfl | rfl | rfl | rfl | rfl | rfl | rfl <;> decide
theorem zub (m : MMach) (hB : Bd m) (s : MInstr) (hs : s.operands.length < 1000000) (i : Nat) (h : i < s.operands.length) (hp : s.operands[i].pieces.length < 1000000) (hn : s.operands[i].name.size < 2 ^ 62) :
  zaq Tryz.prog (om Tryz.prog) 131 [zac m, zaf s, .int .i64 i] ⟨0, []⟩ = some (.bool (zez m s i s.operands[i]), ⟨0, []⟩) := by
 have L := zyq m s hs i h 0 (Nat.zero_le _)
 have hN := zed _ hn
 have hP := zwu s.operands[i] m.word (by omega)
 have hF := yacm s.operands[i] (by omega)
 have ej : zb9 (fun k => !eqN MOpd.name s.operands i k) 0 i = zwp MOpd.name s.operands i := rfl
 have pc : (ByteArray.mk #[112, 99]) = pcN := rfl
 rw [ej] at L
 have eix := ix_sl (k := .i64) (f := zbj) (sz := 6) (c := s.po.cap) (zab (p := s.po) (f := zbj)) h
 generalize s.operands[i] = o at *
 simp only [zbj] at hP hF
 simp only [moH, Int.natCast_zero] at L
 have en : decide (0 < (o.pieces.length : Int)) = !decide ((o.pieces.length : Int) = 0) := by
  by_cases q : (o.pieces.length : Int) = 0
  ·rw [q]; rfl
  ·rw [decide_eq_false q, decide_eq_true (show 0 < (o.pieces.length : Int) by omega)]; rfl
 rw [yark _ _ (by simp)]
 cases h1 : zbm o.name with
 | false => simp (maxSteps := 1000000) -implicitDefEqProofs only [↓reduceIte, ↓cond_true, ↓cond_false, sr1, sr2, kA, seval, zrk, zdg, zck, zcl, zrw, zdh, zdi, zrl, zac, zad, zaf, eix, zbj, hN, h1, zez]
 | true =>
 cases h2 : decide (o.name = pcN) with
 | true => simp (maxSteps := 1000000) -implicitDefEqProofs only [↓reduceIte, ↓cond_true, ↓cond_false, sr1, sr2, kA, seval, zrk, zdg, zck, zcl, zrw, zdh, zdi, zrl, zac, zad, zaf, eix, zbj, hN, h1, pc, h2, zez]
 | false =>
 cases h3 : zmo m.word o with
 | false => simp (maxSteps := 1000000) -implicitDefEqProofs only [↓reduceIte, ↓cond_true, ↓cond_false, sr1, sr2, kA, seval, zrk, zdg, zck, zcl, zrw, zdh, zdi, zrl, zac, zad, zaf, eix, zbj, hN, h1, pc, h2, hP, h3, zez]
 | true =>
 cases h4 : zwp MOpd.name s.operands i with
 | false =>
  rw [h4] at L
  simp (maxSteps := 1000000) -implicitDefEqProofs only [↓reduceIte, ↓cond_true, ↓cond_false, sr1, sr2, kA, seval, zrk, zdg, zck, zcl, zrw, zdh, zdi, zrl, zac, zad, zaf, eix, zbj, hN, h1, pc, h2, hP, h3, L, zez, h4]
 | true =>
 rw [h4] at L
 by_cases k1 : o.kind = 1
 ·have k1d := decide_eq_true k1
  cases hb : inR o.bank 0 ((m.banks.length : Int) - 1) with
  | false => simp (maxSteps := 1000000) -implicitDefEqProofs only [↓reduceIte, ↓cond_true, ↓cond_false, sr1, sr2, kA, seval, zrk, zdg, zck, zcl, zrw, zdh, zdi, zrl, zac, zad, zaf, eix, zbj, hN, h1, pc, h2, hP, h3, L, zez, h4, k1d, za3, zas hB.b, hb, zc4]
  | true =>
  obtain ⟨b0, b1⟩ := zd7 hb
  cases hsc : decide (o.scale = 0) with
  | false => simp (maxSteps := 1000000) -implicitDefEqProofs only [↓reduceIte, ↓cond_true, ↓cond_false, sr1, sr2, kA, seval, zrk, zdg, zck, zcl, zrw, zdh, zdi, zrl, zac, zad, zaf, eix, zbj, hN, h1, pc, h2, hP, h3, L, zez, h4, k1d, za3, zas hB.b, hb, hsc, zc4]
  | true =>
  cases ht : decide (o.tied = -1) with
  | true =>
   cases f0 : decide (0 < zdx o) with
   | false => simp (maxSteps := 1000000) -implicitDefEqProofs only [↓reduceIte, ↓cond_true, ↓cond_false, sr1, sr2, kA, seval, zrk, zdg, zck, zcl, zrw, zdh, zdi, zrl, zac, zad, zaf, eix, zbj, hN, h1, pc, h2, hP, h3, L, zez, h4, k1d, za3, zas hB.b, hb, hsc, ht, hF, f0, zc4, zqk]
   | true =>
   cases f6 : decide (6 < zdx o) with
   | true => simp (maxSteps := 1000000) -implicitDefEqProofs only [↓reduceIte, ↓cond_true, ↓cond_false, sr1, sr2, kA, seval, zrk, zdg, zck, zcl, zrw, zdh, zdi, zrl, zac, zad, zaf, eix, zbj, hN, h1, pc, h2, hP, h3, L, zez, h4, k1d, za3, zas hB.b, hb, hsc, ht, hF, f0, f6, zc4, zqk]
   | false =>
    have g0 := of_decide_eq_true f0
    have g6 := of_decide_eq_false f6
    have hpw := yahu (zdx o).toNat (by omega)
    have hsh := yamy (n := (zdx o).toNat) (by omega)
    rw [show (((zdx o).toNat : Nat) : Int) = zdx o by omega] at hpw hsh
    have ebl : zph m o.bank = (m.banks[o.bank.toNat].regs.length : Int) := by unfold zph; rw [List.getElem?_eq_getElem b1]
    simp (maxSteps := 1000000) -implicitDefEqProofs only [↓reduceIte, ↓cond_true, ↓cond_false, sr1, sr2, kA, seval, zrk, zdg, zck, zcl, zrw, zdh, zdi, zrl, zac, zad, zaf, eix, zbj, hN, h1, pc, h2, hP, h3, L, zez, h4, k1d, za3, zas hB.b, hb, hsc, ht, hF, f0, f6, ix_z zab b0 b1, zem, hpw, hsh, ebl, zc4, zqk]
  | false =>
   have wi : IntKind.i64.wrap ((i : Int) - 1) = (i : Int) - 1 := zjp (by omega) (by omega)
   cases hx : inR o.tied 0 ((i : Int) - 1) with
   | false => simp (maxSteps := 1000000) -implicitDefEqProofs only [↓reduceIte, ↓cond_true, ↓cond_false, sr1, sr2, kA, seval, zrk, zdg, zck, zcl, zrw, zdh, zdi, zrl, zac, zad, zaf, eix, zbj, hN, h1, pc, h2, hP, h3, L, zez, h4, k1d, za3, zas hB.b, hb, hsc, ht, wi, hx, zc4, zmk]
   | true =>
   cases hl : decide ((o.pieces.length : Int) = 0) with
   | false => simp (maxSteps := 1000000) -implicitDefEqProofs only [↓reduceIte, ↓cond_true, ↓cond_false, sr1, sr2, kA, seval, zrk, zdg, zck, zcl, zrw, zdh, zdi, zrl, zac, zad, zaf, eix, zbj, hN, h1, pc, h2, hP, h3, L, zez, h4, k1d, za3, zas hB.b, hb, hsc, ht, wi, hx, en, hl, zc4, zmk]
   | true =>
    have hx' : 0 ≤ o.tied ∧ o.tied ≤ (i : Int) - 1 := by simpa [inR] using hx
    have t1 : o.tied.toNat < s.operands.length := by omega
    have etq : yady s o = (decide (s.operands[o.tied.toNat].kind = 1) && (decide (s.operands[o.tied.toNat].bank = o.bank) && decide (s.operands[o.tied.toNat].tied = -1))) := by unfold yady; rw [List.getElem?_eq_getElem t1]
    simp (maxSteps := 1000000) -implicitDefEqProofs only [↓reduceIte, ↓cond_true, ↓cond_false, sr1, sr2, kA, seval, zrk, zdg, zck, zcl, zrw, zdh, zdi, zrl, zac, zad, zaf, eix, zbj, hN, h1, pc, h2, hP, h3, L, zez, h4, k1d, za3, zas hB.b, hb, hsc, ht, wi, hx, en, hl, ix_z zab hx'.1 t1, etq, zc4, zmk, Bool.and_assoc]
 ·have k1' := decide_eq_false k1
  cases k2 : (decide (o.kind = 2) || (decide (o.kind = 3) || decide (o.kind = 4))) with
  | false =>
   have k2' := k2
   simp only [Bool.or_eq_false_iff] at k2'
   simp (maxSteps := 1000000) -implicitDefEqProofs only [↓reduceIte, ↓cond_true, ↓cond_false, sr1, sr2, kA, seval, zrk, zdg, zck, zcl, zrw, zdh, zdi, zrl, zac, zad, zaf, eix, zbj, hN, h1, pc, h2, hP, h3, L, zez, h4, k1', k2'.1, k2'.2.1, k2'.2.2, zc4]
  | true =>
   have tri : (decide (o.kind = 2) = true ∧ decide (o.kind = 3) = false ∧ decide (o.kind = 4) = false) ∨ (decide (o.kind = 2) = false ∧ decide (o.kind = 3) = true ∧ decide (o.kind = 4) = false) ∨ (decide (o.kind = 2) = false ∧ decide (o.kind = 3) = false ∧ decide (o.kind = 4) = true) := by
    simp only [Bool.or_eq_true, decide_eq_true_eq] at k2
    simp only [decide_eq_true_eq, decide_eq_false_iff_not]
    omega
   rcases tri with ⟨d2, d3, d4⟩ | ⟨d2, d3, d4⟩ | ⟨d2, d3, d4⟩
   all_goals
    cases c1 : decide (o.bank = 0) with
    | false => simp (maxSteps := 1000000) -implicitDefEqProofs only [↓reduceIte, ↓cond_true, ↓cond_false, sr1, sr2, kA, seval, zrk, zdg, zck, zcl, zrw, zdh, zdi, zrl, zac, zad, zaf, eix, zbj, hN, h1, pc, h2, hP, h3, L, zez, h4, k1', d2, d3, d4, za3, hF, c1, zc4, zql]
    | true =>
     cases c2 : decide (o.tied = -1) with
     | false => simp (maxSteps := 1000000) -implicitDefEqProofs only [↓reduceIte, ↓cond_true, ↓cond_false, sr1, sr2, kA, seval, zrk, zdg, zck, zcl, zrw, zdh, zdi, zrl, zac, zad, zaf, eix, zbj, hN, h1, pc, h2, hP, h3, L, zez, h4, k1', d2, d3, d4, za3, hF, c1, c2, zc4, zql]
     | true =>
      cases c3 : inR o.scale 0 3 with
      | false => simp (maxSteps := 1000000) -implicitDefEqProofs only [↓reduceIte, ↓cond_true, ↓cond_false, sr1, sr2, kA, seval, zrk, zdg, zck, zcl, zrw, zdh, zdi, zrl, zac, zad, zaf, eix, zbj, hN, h1, pc, h2, hP, h3, L, zez, h4, k1', d2, d3, d4, za3, hF, c1, c2, c3, zc4, zql]
      | true =>
       cases c4 : decide (0 < zdx o) with
       | false => simp (maxSteps := 1000000) -implicitDefEqProofs only [↓reduceIte, ↓cond_true, ↓cond_false, sr1, sr2, kA, seval, zrk, zdg, zck, zcl, zrw, zdh, zdi, zrl, zac, zad, zaf, eix, zbj, hN, h1, pc, h2, hP, h3, L, zez, h4, k1', d2, d3, d4, za3, hF, c1, c2, c3, c4, zc4, zql]
       | true => simp (maxSteps := 1000000) -implicitDefEqProofs only [↓reduceIte, ↓cond_true, ↓cond_false, sr1, sr2, kA, seval, zrk, zdg, zck, zcl, zrw, zdh, zdi, zrl, zac, zad, zaf, eix, zbj, hN, h1, pc, h2, hP, h3, L, zez, h4, k1', d2, d3, d4, za3, hF, c1, c2, c3, c4, zc4, zql]
abbrev miH (m : MMach) (s : MInstr) : Heap := ⟨2, [some (.cells 27 (zad m)), some (.cells 113 (zi4 s))]⟩
def PcOk (s : MInstr) : Prop := ∀ o ∈ s.operands, ∀ p ∈ o.pieces, 0 ≤ p.at_ ∧ 1 ≤ p.len ∧ p.at_ + p.len ≤ 64
theorem yauk {p : MPiece} (h : 0 ≤ p.at_ ∧ 1 ≤ p.len ∧ p.at_ + p.len ≤ 64) (b : Nat) : inR (b : Int) p.at_ (IntKind.i64.wrap (IntKind.i64.wrap (p.at_ + p.len) - 1)) = pin p b := by
 have e1 : IntKind.i64.wrap (p.at_ + p.len) = p.at_ + p.len := zjp (by omega) (by omega)
 have e2 : IntKind.i64.wrap (p.at_ + p.len - 1) = p.at_ + p.len - 1 := zjp (by omega) (by omega)
 rw [e1, e2]
 unfold inR pin
 congr 1
 rw [Bool.eq_iff_iff, decide_eq_true_iff, decide_eq_true_iff]; omega
theorem yafe {l : List MPiece} {k b : Nat} (h : k < l.length) : zgz (l.drop k) b = one (pin l[k] b) + zgz (l.drop (k + 1)) b := by
 rw [List.drop_eq_getElem_cons h]
 simp only [zgz, List.countP_cons, one]
 omega
theorem yakk {l : List MPiece} {b : Nat} : zgz (l.drop l.length) b = 0 := by rw [List.drop_length]; rfl
theorem yasx {l : List MPiece} {b : Nat} : zgz l b ≤ l.length := List.countP_le_length
theorem yaj8 (m : MMach) (s : MInstr) (hs : PcOk s) (b i : Nat) (hi : i < s.operands.length) (hp : s.operands[i].pieces.length < 1000000) : ∀ k, k ≤ s.operands[i].pieces.length → ∀ n : Nat, n ≤ 1000000000000 → lim (some [2, 3, 5, 6, 7]) 0 (blk 4 (om Tryz.prog ⟨132, none⟩ 0 (.loop (lpb Tryz.f132 2)) ⟨⟨62, [(2, .ptr 0 0), (3, .ptr 1 0), (5, .int .i64 b), (6, .int .i64 n), (7, .int .i64 i), (8, .int .i64 k)]⟩, [], miH m s⟩)) =
  some (.normal, ⟨⟨62, [(2, .ptr 0 0), (3, .ptr 1 0), (5, .int .i64 b), (6, .int .i64 ((n + zgz (s.operands[i].pieces.drop k) b : Nat) : Int)), (7, .int .i64 i)]⟩, [], miH m s⟩) := by
 have hq := hs _ (List.getElem_mem hi)
 have eo := ix_sl (k := .i64) (f := zbj) (sz := 6) (c := s.po.cap) (zab (p := s.po) (f := zbj)) hi
 generalize s.operands[i] = o at *
 intro k hk n hn
 have key : ∀ k, k ≤ o.pieces.length → ∀ n : Nat, n + (o.pieces.length - k) ≤ 2000000000000 → lim (some [2, 3, 5, 6, 7]) 0 (blk 4 (om Tryz.prog ⟨132, none⟩ 0 (.loop (lpb Tryz.f132 2)) ⟨⟨62, [(2, .ptr 0 0), (3, .ptr 1 0), (5, .int .i64 b), (6, .int .i64 n), (7, .int .i64 i), (8, .int .i64 k)]⟩, [], miH m s⟩)) =
  some (.normal, ⟨⟨62, [(2, .ptr 0 0), (3, .ptr 1 0), (5, .int .i64 b), (6, .int .i64 ((n + zgz (o.pieces.drop k) b : Nat) : Int)), (7, .int .i64 i)]⟩, [], miH m s⟩) := by
  refine zb8 (fun n hn => ?_) (fun k h ih n hn => ?_) <;> rw [zae]
  ·simp (maxSteps := 1000000) -implicitDefEqProofs only [↓reduceIte, ↓cond_true, ↓cond_false, sr1, sr2, kA, seval, d132, n132, zkt, e132, eo, zbj, yakk]
  ·have hx := yauk (hq _ (List.getElem_mem h)) b
   rw [yafe h]
   cases hb : pin o.pieces[k] b with
   | true =>
    rw [hb] at hx
    have L := ih (n + 1) (by omega)
    have e1 : one true = 1 := rfl
    rw [e1, ← Nat.add_assoc]
    simp (maxSteps := 1000000) -implicitDefEqProofs only [↓reduceIte, ↓cond_true, ↓cond_false, sr1, sr2, kA, seval, d132, n132, zkt, e132, dlt_t h, wi_nat (show k < 2 ^ 62 by omega), wi_nat (show n < 2 ^ 62 by omega), eo, zbj, ix_sl zab h, zgh, za3, hx, L]
   | false =>
    rw [hb] at hx
    have L := ih n (by omega)
    have e0 : one false = 0 := rfl
    rw [e0, Nat.zero_add]
    simp (maxSteps := 1000000) -implicitDefEqProofs only [↓reduceIte, ↓cond_true, ↓cond_false, sr1, sr2, kA, seval, d132, n132, zkt, e132, dlt_t h, wi_nat (show k < 2 ^ 62 by omega), eo, zbj, ix_sl zab h, zgh, za3, hx, L]
 exact key k hk n (by omega)
theorem yaj7 (m : MMach) (s : MInstr) (hs : PcOk s) (hl : s.operands.length < 100000) (hp : ∀ o ∈ s.operands, o.pieces.length < 1000000) (b : Nat) : ∀ i, i ≤ s.operands.length → ∀ n : Nat, n + (s.operands.length - i) * 1000000 ≤ 1000000000000 → lim (some [2, 3, 5, 6]) 0 (blk 2 (om Tryz.prog ⟨132, none⟩ 0 (.loop (lpb Tryz.f132 1)) ⟨⟨62, [(2, .ptr 0 0), (3, .ptr 1 0), (5, .int .i64 b), (6, .int .i64 n), (7, .int .i64 i)]⟩, [], miH m s⟩)) =
  some (.normal, ⟨⟨62, [(2, .ptr 0 0), (3, .ptr 1 0), (5, .int .i64 b), (6, .int .i64 ((n + zgz (zzj (s.operands.drop i)) b : Nat) : Int))]⟩, [], miH m s⟩) := by
 refine zb8 (fun n hn => ?_) (fun i h ih n hn => ?_) <;> rw [zae]
 ·simp (maxSteps := 1000000) -implicitDefEqProofs only [↓reduceIte, ↓cond_true, ↓cond_false, sr1, sr2, kA, seval, d132, n132, zkt, e132, List.drop_length, zzj, List.flatMap_nil, zgz, List.countP_nil]
 ·have hpi := hp _ (List.getElem_mem h)
  have L2 := yaj8 m s hs b i h hpi 0 (Nat.zero_le _) n (by omega)
  have hc : zgz s.operands[i].pieces b ≤ s.operands[i].pieces.length := yasx
  have L := ih (n + zgz s.operands[i].pieces b) (by omega)
  have e : zgz (zzj (s.operands.drop i)) b = zgz s.operands[i].pieces b + zgz (zzj (s.operands.drop (i + 1))) b := by
   rw [List.drop_eq_getElem_cons h]; simp only [zzj, List.flatMap_cons, zz2]
  rw [e, ← Nat.add_assoc]
  simp only [Int.natCast_zero, List.drop_zero] at L2
  simp (maxSteps := 1000000) -implicitDefEqProofs only [↓reduceIte, ↓cond_true, ↓cond_false, sr1, sr2, kA, seval, d132, n132, zkt, e132, dlt_t h, wi_nat (show i < 2 ^ 62 by omega), L2, L]
def zh6 (s : MInstr) (b : Nat) : Bool := !decide (1 < one (tb s.mask b) + zgz (zzj s.operands) b)
theorem yaj6 (m : MMach) (s : MInstr) (hs : PcOk s) (hl : s.operands.length < 100000) (hp : ∀ o ∈ s.operands, o.pieces.length < 1000000) (h0 : 0 ≤ s.mask) (h1 : s.mask < 2 ^ 64) (W : Nat) (hW : IntKind.i64.wrap (8 * m.word) = (W : Int)) (hW2 : W ≤ 64) : ∀ b, b ≤ W → lim (some []) 0 (blk 0 (om Tryz.prog ⟨132, none⟩ 0 (.loop (lpb Tryz.f132 0)) ⟨⟨62, [(2, .ptr 0 0), (3, .ptr 1 0), (5, .int .i64 b)]⟩, [], miH m s⟩)) =
  bif zb9 (zh6 s) b W then some (.normal, ⟨⟨62, []⟩, [], ⟨0, []⟩⟩) else some (.ret, ⟨⟨62, [(4, .bool false)]⟩, [], ⟨0, []⟩⟩) := by
 refine zb8 ?_ (fun b h ih => ?_) <;> rw [zae]
 ·simp (maxSteps := 1000000) -implicitDefEqProofs only [↓reduceIte, ↓cond_true, ↓cond_false, sr1, sr2, kA, seval, d132, n132, zkt, e132, zba, hW]
 ·have hb := zs8 b (by omega) s.mask h0 h1
  have eb : zu3 s.mask b = ((one (tb s.mask b) : Nat) : Int) := by
   rw [zxt h0 h1]; unfold one; cases tb s.mask b <;> rfl
  rw [eb] at hb
  have h2 : one (tb s.mask b) ≤ 1 := by unfold one; split <;> omega
  have L := yaj7 m s hs hl hp b 0 (Nat.zero_le _) (one (tb s.mask b)) (by omega)
  rw [List.drop_zero] at L
  simp only [Int.natCast_zero] at L
  have ed : decide ((1 : Int) < ((one (tb s.mask b) + zgz (zzj s.operands) b : Nat) : Int)) = !zh6 s b := by
   unfold zh6
   rw [Bool.not_not, Bool.eq_iff_iff, decide_eq_true_iff, decide_eq_true_iff]; omega
  rw [zbr h]
  cases ha : zh6 s b with
  | true =>
   rw [ha] at ed
   simp (maxSteps := 1000000) -implicitDefEqProofs only [↓reduceIte, ↓cond_true, ↓cond_false, sr1, sr2, kA, seval, d132, n132, zkt, e132, dlt_t h, wi_nat (show b < 2 ^ 62 by omega), hW, hb, L, ed, ih]
  | false =>
   rw [ha] at ed
   simp (maxSteps := 1000000) -implicitDefEqProofs only [↓reduceIte, ↓cond_true, ↓cond_false, sr1, sr2, kA, seval, d132, n132, zkt, e132, dlt_t h, hW, hb, L, ed]
theorem yaeu (m : MMach) (s : MInstr) (hs : PcOk s) (hl : s.operands.length < 100000) (hp : ∀ o ∈ s.operands, o.pieces.length < 1000000) (h0 : 0 ≤ s.mask) (h1 : s.mask < 2 ^ 64) (W : Nat) (hW : IntKind.i64.wrap (8 * m.word) = (W : Int)) (hW2 : W ≤ 64) : zaq Tryz.prog (om Tryz.prog) 132 [zac m, zaf s] ⟨0, []⟩ = some (.bool (zb9 (zh6 s) 0 W), ⟨0, []⟩) := by
 have L := yaj6 m s hs hl hp h0 h1 W hW hW2 0 (Nat.zero_le _)
 simp only [Int.natCast_zero, miH] at L
 rw [yarl _ _ (by simp)]
 cases h : zb9 (zh6 s) 0 W with
 | true =>
  rw [h] at L
  simp (maxSteps := 1000000) -implicitDefEqProofs only [↓reduceIte, ↓cond_true, ↓cond_false, sr1, sr2, kA, seval, d132, n132, zkt, e132, zac, zad, zaf, L]
 | false =>
  rw [h] at L
  simp (maxSteps := 1000000) -implicitDefEqProofs only [↓reduceIte, ↓cond_true, ↓cond_false, sr1, sr2, kA, seval, d132, n132, zkt, e132, zac, zad, zaf, L]
theorem zv1 {α : Type} {p : α → Bool} {l : List α} {i : Nat} (h : i < l.length) : (l.drop i).find? p = bif p l[i] then some l[i] else (l.drop (i + 1)).find? p := by
 rw [List.drop_eq_getElem_cons h, List.find?_cons]
 by_cases q : p l[i] = true
 ·rw [q]; rfl
 ·rw [Bool.not_eq_true] at q; rw [q]; rfl
def yadn (m : MMach) (n : ByteArray) (w : Int) (x : Option MOpd) : Rx := match x with
 | some o => some (.ret, ⟨⟨65, [(8, .bool (decide (w = zoo m o)))]⟩, [], ⟨0, []⟩⟩)
 | none => some (.normal, ⟨⟨65, [(2, .str n), (3, .int .i64 w), (4, .ptr 0 0)]⟩, [], ⟨1, [some (.cells 27 (zad m))]⟩⟩)
theorem zzb (m : MMach) (s : MInstr) (hs : s.operands.length < 1000000) (hW : ∀ o ∈ s.operands, o.kind = 1 → zgx m o) (n : ByteArray) (w : Int) : ∀ i, i ≤ s.operands.length → lim (some [2, 3, 4]) 0 (blk 0 (om Tryz.prog ⟨185, none⟩ 0 (.loop (lpb Tryz.f185 0)) ⟨⟨65, [(2, .str n), (3, .int .i64 w), (4, .ptr 0 0), (5, .ptr 1 0), (9, .int .i64 i)]⟩, [], miH m s⟩)) =
  yadn m n w ((s.operands.drop i).find? fun o => decide (o.name = n)) := by
 refine zb8 ?_ (fun i h ih => ?_) <;> rw [zae]
 ·simp (maxSteps := 1000000) -implicitDefEqProofs only [↓reduceIte, ↓cond_true, ↓cond_false, sr1, sr2, kA, seval, d185, zko, n185, zkz, e185, List.drop_length, List.find?_nil, yadn]
 ·have hw := zxh m s.operands[i] (hW _ (List.getElem_mem h))
  simp only [zac, zad, zbj] at hw
  rw [zv1 h]
  cases hn : decide (s.operands[i].name = n) with
  | true => simp (maxSteps := 1000000) -implicitDefEqProofs only [↓reduceIte, ↓cond_true, ↓cond_false, sr1, sr2, kA, seval, d185, zko, n185, zkz, e185, dlt_t h, ix_sl zab h, zbj, hn, hw, yadn]
  | false => simp (maxSteps := 1000000) -implicitDefEqProofs only [↓reduceIte, ↓cond_true, ↓cond_false, sr1, sr2, kA, seval, d185, zko, n185, zkz, e185, dlt_t h, wi_nat (show i < 2 ^ 62 by omega), ix_sl zab h, zbj, hn, ih]
def yahz (w : Int) (x : Option MReg) : Rx := match x with
 | some r => some (.ret, ⟨⟨65, [(8, .bool (decide (w = r.width)))]⟩, [], ⟨0, []⟩⟩)
 | none => some (.normal, ⟨⟨65, []⟩, [], ⟨0, []⟩⟩)
theorem zzc (m : MMach) (hB : Bd m) (hN : ∀ r ∈ m.regs, r.name.size < 1000000) (n : ByteArray) (w : Int) : ∀ i, i ≤ m.regs.length → lim (some []) 0 (blk 2 (om Tryz.prog ⟨185, none⟩ 0 (.loop (lpb Tryz.f185 1)) ⟨⟨65, [(2, .str n), (3, .int .i64 w), (4, .ptr 0 0), (10, .int .i64 i)]⟩, [], ⟨1, [some (.cells 27 (zad m))]⟩⟩)) =
  yahz w ((m.regs.drop i).find? fun r => decide (rDot ++ r.name = n)) := by
 have hu := hB.r
 have pd : (ByteArray.mk #[114, 46]) = rDot := rfl
 refine zb8 ?_ (fun i h ih => ?_) <;> rw [zae]
 ·simp (maxSteps := 1000000) -implicitDefEqProofs only [↓reduceIte, ↓cond_true, ↓cond_false, sr1, sr2, kA, seval, d185, zko, n185, zkz, e185, List.drop_length, List.find?_nil, yahz]
 ·have hn := hN _ (List.getElem_mem h)
  have ha := yaeg (a := rDot) (b := m.regs[i].name) (by rw [zwz]; omega)
  rw [zv1 h]
  cases hn : decide (rDot ++ m.regs[i].name = n) with
  | true => simp (maxSteps := 1000000) -implicitDefEqProofs only [↓reduceIte, ↓cond_true, ↓cond_false, sr1, sr2, kA, seval, d185, zko, n185, zkz, e185, dlt_t h, ix_sl zab h, zei, pd, ha, hn, yahz]
  | false => simp (maxSteps := 1000000) -implicitDefEqProofs only [↓reduceIte, ↓cond_true, ↓cond_false, sr1, sr2, kA, seval, d185, zko, n185, zkz, e185, dlt_t h, wi_nat (show i < 2 ^ 62 by omega), ix_sl zab h, zei, pd, ha, hn, ih]
theorem zxc (m : MMach) (hB : Bd m) (hN : ∀ r ∈ m.regs, r.name.size < 1000000) (s : MInstr) (hs : s.operands.length < 1000000) (hW : ∀ o ∈ s.operands, o.kind = 1 → zgx m o) (n : ByteArray) (w : Int) : zaq Tryz.prog (om Tryz.prog) 185 [zac m, zaf s, .str n, .int .i64 w] ⟨0, []⟩ = some (.bool (zhd m s n w), ⟨0, []⟩) := by
 have L0 := zzb m s hs hW n w 0 (Nat.zero_le _)
 have L1 := zzc m hB hN n w 0 (Nat.zero_le _)
 have pc : (ByteArray.mk #[112, 99]) = pcN := rfl
 simp only [Int.natCast_zero, List.drop_zero, miH] at L0 L1
 unfold zhd
 rw [zzd, zuy]
 rw [yasc _ _ (by simp)]
 cases hp : decide (n = pcN) with
 | true => simp (maxSteps := 1000000) -implicitDefEqProofs only [↓reduceIte, ↓cond_true, ↓cond_false, sr1, sr2, kA, seval, d185, zko, n185, zkz, e185, zac, zad, zaf, pc, hp]
 | false =>
  cases h0 : s.operands.find? (fun o => decide (o.name = n)) with
  | some o =>
   rw [h0] at L0
   simp (maxSteps := 1000000) -implicitDefEqProofs only [↓reduceIte, ↓cond_true, ↓cond_false, sr1, sr2, kA, seval, d185, zko, n185, zkz, e185, zac, zad, zaf, pc, hp, L0, yadn]
  | none =>
   rw [h0] at L0
   cases h1 : m.regs.find? (fun r => decide (rDot ++ r.name = n)) with
   | some r =>
    rw [h1] at L1
    simp (maxSteps := 1000000) -implicitDefEqProofs only [↓reduceIte, ↓cond_true, ↓cond_false, sr1, sr2, kA, seval, d185, zko, n185, zkz, e185, zac, zad, zaf, pc, hp, L0, L1, yadn, yahz]
   | none =>
    rw [h1] at L1
    simp (maxSteps := 1000000) -implicitDefEqProofs only [↓reduceIte, ↓cond_true, ↓cond_false, sr1, sr2, kA, seval, d185, zko, n185, zkz, e185, zac, zad, zaf, pc, hp, L0, L1, yadn, yahz]
end Go.Proofs.YtcfcphhamfhfcaaGreatDoor.v
