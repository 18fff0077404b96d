/- What the law's proof leans on, part 24. Conditions: in each statement. -/
import Derived.Test.YtibehelnfbcnjaaGreatDoorQ4
set_option linter.all false
namespace Go.Proofs.YtibehelnfbcnjaaGreatDoor.v
open Go Go.Ab
set_option maxRecDepth 100000
set_option maxHeartbeats 4000000
set_option linter.unusedSimpArgs false
set_option linter.unusedVariables false
structure MOk (m : MMach) : Prop where
 b : Bd m
 s : Sd m
 n : m.name.size < 2 ^ 62
 i : ∀ s ∈ m.instrs, IOk s
theorem yanx (m : MMach) (hm : MOk m) (h1 : 1 ≤ m.word) (h2 : m.word ≤ 4) (hr : zie m = true) (hb : zdc m = true) : ∀ i, i ≤ m.instrs.length → ∀ ok l, l.length + (m.instrs.length - i) < 1000000 →
  lim (some [3]) 0 (blk 0 (om Tryz.prog ⟨26, none⟩ 0 (.loop (lpb Tryz.f26 0)) ⟨⟨63, [(3, .ptr 0 0), (4, .ptr 1 0), (37, .rsl (slA m.pi m.instrs) m.pi.cap 9 (m.instrs.map zad)), (38, .int .i64 m.instrs.length), (39, .int .i64 i)]⟩, [], ckN m ok l⟩)) = some (.normal, ⟨⟨63, [(3, .ptr 0 0)]⟩, [], ckH m (ok && zbj MInstr.name (zfq m) (m.instrs.drop i) l)⟩) := by
 have hu := hm.b.i
 refine zbl (fun ok l hl => ?_) (fun i h ih ok l hl => ?_) <;> rw [zac]
 ·simp (maxSteps := 1000000) -implicitDefEqProofs only [↓reduceIte, ↓cond_true, ↓cond_false, sr1, sr2, kA, seval, d26, zi3, n26, zi7, e26, List.drop_length, zbj]
 ·have hx := List.getElem_mem h
  have L := fun ok => ih ok (l ++ [m.instrs[i].name]) (by simp; omega)
  have hI := fun ok => zth m hm.b h1 h2 hr hb m.instrs[i] (hm.i _ hx) ok
  simp only [ckN, List.length_append, List.length_cons, List.length_nil, List.map_append, List.map_cons, List.map_nil, Nat.zero_add, zad] at L hI
  rw [zb9 h]
  cases ok with
  | false => simp (maxSteps := 1000000) -implicitDefEqProofs only [↓reduceIte, ↓cond_true, ↓cond_false, sr1, sr2, kA, seval, d26, zi3, n26, zi7, e26, dlt_t h, ix_sl zab h, zad]
  | true => simp (maxSteps := 1000000) -implicitDefEqProofs only [↓reduceIte, ↓cond_true, ↓cond_false, sr1, sr2, kA, seval, d26, zi3, n26, zi7, e26, dlt_t h, wi_nat (show i < 2 ^ 62 by omega), ix_sl zab h, zad, zcv, zgy l _ (hm.s.i _ hx) (by omega), hI, L, Bool.and_assoc]
theorem yanv (m : MMach) (hm : MOk m) (h1 : 1 ≤ m.word) (h2 : m.word ≤ 4) (hr : zie m = true) (hb : zdc m = true) (ok : Bool) (i : Nat) (hi : i = 0) :
  lim (some [3]) 0 (blk 0 (om Tryz.prog ⟨26, none⟩ 0 (.loop (lpb Tryz.f26 0)) ⟨⟨63, [(3, .ptr 0 0), (4, .ptr 1 0), (37, .rsl (slA m.pi m.instrs) m.pi.cap 9 (m.instrs.map zad)), (38, .int .i64 m.instrs.length), (39, .int .i64 i)]⟩, [], ck0 m ok⟩)) = some (.normal, ⟨⟨63, [(3, .ptr 0 0)]⟩, [], ckH m (ok && zbj MInstr.name (zfq m) (m.instrs.drop i) [])⟩) := by
 have hu := hm.b.i
 by_cases h : i < m.instrs.length <;> rw [zac]
 ·have hx := List.getElem_mem h
  have L := fun ok => yanx m hm h1 h2 hr hb (i + 1) (by omega) ok [m.instrs[i].name] (by simp; omega)
  have hI := fun ok => zth m hm.b h1 h2 hr hb m.instrs[i] (hm.i _ hx) ok
  simp only [ckN, List.length_cons, List.length_nil, List.map_cons, List.map_nil, Nat.zero_add, zad] at L hI
  rw [zb9 h]
  cases ok with
  | false => simp (maxSteps := 1000000) -implicitDefEqProofs only [↓reduceIte, ↓cond_true, ↓cond_false, sr1, sr2, kA, seval, d26, zi3, n26, zi7, e26, dlt_t h, ix_sl zab h, zad]
  | true => simp (maxSteps := 1000000) -implicitDefEqProofs only [↓reduceIte, ↓cond_true, ↓cond_false, sr1, sr2, kA, seval, d26, zi3, n26, zi7, e26, dlt_t h, wi_nat (show i < 2 ^ 62 by omega), ix_sl zab h, zad, zcv, zh1 _ (hm.s.i _ hx), hI, L, Bool.and_assoc, zf9]
 ·have e : m.instrs.length = i := by omega
  simp (maxSteps := 1000000) -implicitDefEqProofs only [↓reduceIte, ↓cond_true, ↓cond_false, sr1, sr2, kA, seval, d26, zi3, n26, zi7, e26, e, List.drop_length, show m.instrs.drop i = [] by rw [← e, List.drop_length], zbj]
theorem yanw (m : MMach) (i : Nat) (hi : i = 0) :
  lim (some [3]) 0 (blk 0 (om Tryz.prog ⟨26, none⟩ 0 (.loop (lpb Tryz.f26 0)) ⟨⟨63, [(3, .ptr 0 0), (4, .ptr 1 0), (37, .rsl (slA m.pi m.instrs) m.pi.cap 9 (m.instrs.map zad)), (38, .int .i64 m.instrs.length), (39, .int .i64 i)]⟩, [], ck0 m false⟩)) = some (.normal, ⟨⟨63, [(3, .ptr 0 0)]⟩, [], ckH m false⟩) := by
 by_cases h : i < m.instrs.length <;> rw [zac]
 ·simp (maxSteps := 1000000) -implicitDefEqProofs only [↓reduceIte, ↓cond_true, ↓cond_false, sr1, sr2, kA, seval, d26, zi3, n26, zi7, e26, dlt_t h, ix_sl zab h, zad]
 ·have e : m.instrs.length = i := by omega
  simp (maxSteps := 1000000) -implicitDefEqProofs only [↓reduceIte, ↓cond_true, ↓cond_false, sr1, sr2, kA, seval, d26, zi3, n26, zi7, e26, e]
def preB (m : MMach) : Bool := (za3 m.name && (inR m.word 1 4 && (decide (m.address = 16) || decide (m.address = 32)))) && (zie m && (zdc m && goodB.unitsB m))
theorem zni (m : MMach) : goodB m = (preB m && zg8 m) := by
 unfold goodB preB; simp only [Bool.and_assoc]
theorem zk1 (m : MMach) (hm : MOk m) : zas Tryz.prog (om Tryz.prog) 26 [zag m] ⟨0, []⟩ = some (.int .i64 (zb3 m), ⟨0, []⟩) := by
 have hs := yafk m hm.b
 have hn := zmm m.name hm.n
 have hR := fun ok => yai2 m hm.b hm.s ok
 have hBk := fun ok => yabz m hm.b hm.s ok
 have hU := fun ok => yaf5 m hm.b hm.s ok
 simp only [zag, zae] at hs
 have eu : (decide (0 < (m.units.length : Int)) && zbj MUn.name zko m.units []) = goodB.unitsB m := rfl
 rw [eu] at hU
 rw [yarj _ _ (by simp)]
 cases hc : zhq m with
 | false => simp (maxSteps := 1000000) -implicitDefEqProofs only [↓reduceIte, ↓cond_true, ↓cond_false, sr1, sr2, kA, seval, d26, zi3, n26, zi7, e26, zag, zae, hs, hc, zb3]
 | true =>
  cases hp : preB m with
  | false =>
   have L := yanw m 0 rfl
   have hg : goodB m = false := by rw [zni, hp]; rfl
   have hp' := hp
   unfold preB at hp'
   simp only [Int.natCast_zero] at L
   cases ha : decide (m.address = 16) with
   | true =>
    simp only [ha, Bool.true_or, Bool.and_assoc, Bool.and_true] at hp'
    simp (maxSteps := 1000000) -implicitDefEqProofs only [↓reduceIte, ↓cond_true, ↓cond_false, sr1, sr2, kA, seval, d26, zi3, n26, zi7, e26, zag, zae, hs, hc, hn, zai, ha, zo5, hR, hBk, hU, hp', L, zb3, hg, Bool.and_assoc]
   | false =>
    simp only [ha, Bool.false_or, Bool.and_assoc] at hp'
    simp (maxSteps := 1000000) -implicitDefEqProofs only [↓reduceIte, ↓cond_true, ↓cond_false, sr1, sr2, kA, seval, d26, zi3, n26, zi7, e26, zag, zae, hs, hc, hn, zai, ha, zo5, hR, hBk, hU, hp', L, zb3, hg, Bool.and_assoc]
  | true =>
   have hp2 := hp
   unfold preB at hp2
   simp only [Bool.and_eq_true] at hp2
   obtain ⟨⟨q1, q2, q3⟩, q4, q5, q6⟩ := hp2
   have hw : 1 ≤ m.word ∧ m.word ≤ 4 := by simpa [inR] using q2
   have L := yanv m hm hw.1 hw.2 q4 q5 true 0 rfl
   have hg : goodB m = zg8 m := by rw [zni, hp]; rfl
   have ei : zbj MInstr.name (zfq m) m.instrs [] = zg8 m := rfl
   simp only [Int.natCast_zero, List.drop_zero, ei] at L
   cases ha : decide (m.address = 16) with
   | true =>
    cases hi : zg8 m with
    | true =>
     rw [hi] at L
     simp (maxSteps := 1000000) -implicitDefEqProofs only [↓reduceIte, ↓cond_true, ↓cond_false, sr1, sr2, kA, seval, d26, zi3, n26, zi7, e26, zag, zae, hs, hc, hn, q1, q2, q4, q5, q6, zai, ha, zo5, hR, hBk, hU, L, zb3, hg, hi]
    | false =>
     rw [hi] at L
     simp (maxSteps := 1000000) -implicitDefEqProofs only [↓reduceIte, ↓cond_true, ↓cond_false, sr1, sr2, kA, seval, d26, zi3, n26, zi7, e26, zag, zae, hs, hc, hn, q1, q2, q4, q5, q6, zai, ha, zo5, hR, hBk, hU, L, zb3, hg, hi]
   | false =>
    rw [ha, Bool.false_or] at q3
    cases hi : zg8 m with
    | true =>
     rw [hi] at L
     simp (maxSteps := 1000000) -implicitDefEqProofs only [↓reduceIte, ↓cond_true, ↓cond_false, sr1, sr2, kA, seval, d26, zi3, n26, zi7, e26, zag, zae, hs, hc, hn, q1, q2, q3, q4, q5, q6, zai, ha, zo5, hR, hBk, hU, L, zb3, hg, hi]
    | false =>
     rw [hi] at L
     simp (maxSteps := 1000000) -implicitDefEqProofs only [↓reduceIte, ↓cond_true, ↓cond_false, sr1, sr2, kA, seval, d26, zi3, n26, zi7, e26, zag, zae, hs, hc, hn, q1, q2, q3, q4, q5, q6, zai, ha, zo5, hR, hBk, hU, L, zb3, hg, hi]
def eqN {α : Type} (nm : α → ByteArray) (us : List α) (i k : Nat) : Bool := match us[k]?, us[i]? with | some v, some u => decide (nm v = nm u) | _, _ => false
theorem zjn {α : Type} {nm : α → ByteArray} {us : List α} {i k : Nat} (hk : k < us.length) (hi : i < us.length) : eqN nm us i k = decide (nm us[k] = nm us[i]) := by
 simp only [eqN, List.getElem?_eq_getElem hk, List.getElem?_eq_getElem hi]
def ztv {α : Type} (nm : α → ByteArray) (us : List α) (i : Nat) : Bool := zb0 (fun k => !eqN nm us i k) 0 i
def zrn {α : Type} (nm : α → ByteArray) (q : Nat → α → Bool) (us : List α) (i : Nat) : Bool := atI us (fun u => za3 (nm u) && q i u) i && ztv nm us i
theorem zk6 {α : Type} {nm : α → ByteArray} {q : Nat → α → Bool} {us : List α} {i : Nat} (h : i < us.length) : zrn nm q us i = ((za3 (nm us[i]) && q i us[i]) && ztv nm us i) := by
 simp only [zrn, atI, List.getElem?_eq_getElem h]
theorem zmp {α : Type} {nm : α → ByteArray} {q : Nat → α → Bool} {us : List α} : zb0 (zrn nm q us) 0 us.length = zy6 nm q 0 us [] := by
 rw [zy7, Bool.eq_iff_iff, za5, za5]
 have key : ∀ j, j < us.length → zrn nm q us j = (atI us (fun u => za3 (nm u) && q j u && !zlm [] (nm u)) j && newI nm us j) := by
  intro j hj
  simp only [zrn, atI, newI, ztv, List.getElem?_eq_getElem hj, zf9, Bool.not_false, Bool.and_true]
  congr 1
  rw [Bool.eq_iff_iff, za5, za5]
  constructor
  ·intro h k _ hk
   have := h k (Nat.zero_le _) hk
   rw [zjn (show k < us.length by omega) hj] at this
   rw [List.getElem?_eq_getElem (show k < us.length by omega)]
   exact this
  ·intro h k _ hk
   have := h k (Nat.zero_le _) hk
   rw [List.getElem?_eq_getElem (show k < us.length by omega)] at this
   rw [zjn (show k < us.length by omega) hj]
   exact this
 exact ⟨fun h j hj hn => by rw [← key j hn]; exact h j hj hn, fun h j hj hn => by rw [key j hn]; exact h j hj hn⟩
theorem yaaa (m : MMach) (hB : Bd m) (i : Nat) (hi : i < m.units.length) : ∀ k, k ≤ i → lim (some [1, 3]) 0 (blk 2 (om Tryz.prog ⟨66, none⟩ 0 (.loop (lpb Tryz.f66 1)) ⟨⟨52, [(1, .ptr 0 0), (3, .int .i64 i), (4, .int .i64 k)]⟩, [], zb2 m⟩)) =
  bif zb0 (fun k => !eqN MUn.name m.units i k) k i then some (.normal, ⟨⟨52, [(1, .ptr 0 0), (3, .int .i64 i)]⟩, [], zb2 m⟩) else some (.ret, ⟨⟨52, [(2, .bool false)]⟩, [], ⟨0, []⟩⟩) := by
 have hu := hB.u
 refine zbl ?_ (fun k h ih => ?_) <;> rw [zac]
 ·simp (maxSteps := 1000000) -implicitDefEqProofs only [↓reduceIte, ↓cond_true, ↓cond_false, sr1, sr2, kA, seval, d66, zox, n66, e66, za4]
 ·have hk : k < m.units.length := by omega
  rw [zch h, zjn hk hi]
  cases hn : decide (m.units[k].name = m.units[i].name) with
  | true => simp (maxSteps := 1000000) -implicitDefEqProofs only [↓reduceIte, ↓cond_true, ↓cond_false, sr1, sr2, kA, seval, d66, zox, n66, e66, dlt_t h, wi_nat (show k < 2 ^ 62 by omega), ix_sl zab hk, ix_sl zab hi, unV, hn]
  | false => simp (maxSteps := 1000000) -implicitDefEqProofs only [↓reduceIte, ↓cond_true, ↓cond_false, sr1, sr2, kA, seval, d66, zox, n66, e66, dlt_t h, wi_nat (show k < 2 ^ 62 by omega), ix_sl zab hk, ix_sl zab hi, unV, hn, ih]
theorem zz9 (m : MMach) (hB : Bd m) (hS : Sd m) : ∀ i, i ≤ m.units.length → lim (some [1]) 0 (blk 0 (om Tryz.prog ⟨66, none⟩ 0 (.loop (lpb Tryz.f66 0)) ⟨⟨52, [(1, .ptr 0 0), (3, .int .i64 i)]⟩, [], zb2 m⟩)) =
  bif zb0 (zrn MUn.name (fun _ => zko) m.units) i m.units.length then some (.normal, ⟨⟨52, [(1, .ptr 0 0)]⟩, [], zb2 m⟩) else some (.ret, ⟨⟨52, [(2, .bool false)]⟩, [], ⟨0, []⟩⟩) := by
 have hu := hB.u
 refine zbl ?_ (fun i h ih => ?_) <;> rw [zac]
 ·simp (maxSteps := 1000000) -implicitDefEqProofs only [↓reduceIte, ↓cond_true, ↓cond_false, sr1, sr2, kA, seval, d66, zox, n66, e66, za4]
 ·have L := yaaa m hB i h 0 (Nat.zero_le _)
  have ej : zb0 (fun k => !eqN MUn.name m.units i k) 0 i = ztv MUn.name m.units i := rfl
  rw [ej] at L
  simp only [Int.natCast_zero] at L
  rw [zbq h, zk6 h]
  have hn := zc8 m.units[i].name (hS.u _ (List.getElem_mem h))
  cases h1 : za3 m.units[i].name with
  | false => simp (maxSteps := 1000000) -implicitDefEqProofs only [↓reduceIte, ↓cond_true, ↓cond_false, sr1, sr2, kA, seval, d66, zox, n66, e66, dlt_t h, ix_sl zab h, unV, hn, h1]
  | true =>
   cases h2 : inR m.units[i].count 1 4 with
   | false => simp (maxSteps := 1000000) -implicitDefEqProofs only [↓reduceIte, ↓cond_true, ↓cond_false, sr1, sr2, kA, seval, d66, zox, n66, e66, dlt_t h, ix_sl zab h, unV, hn, h1, zap, h2, zko]
   | true =>
    cases h3 : ztv MUn.name m.units i with
    | false =>
     rw [h3] at L
     simp (maxSteps := 1000000) -implicitDefEqProofs only [↓reduceIte, ↓cond_true, ↓cond_false, sr1, sr2, kA, seval, d66, zox, n66, e66, dlt_t h, ix_sl zab h, unV, hn, h1, zap, h2, zko, L]
    | true =>
     rw [h3] at L
     simp (maxSteps := 1000000) -implicitDefEqProofs only [↓reduceIte, ↓cond_true, ↓cond_false, sr1, sr2, kA, seval, d66, zox, n66, e66, dlt_t h, wi_nat (show i < 2 ^ 62 by omega), ix_sl zab h, unV, hn, h1, zap, h2, zko, L, ih]
theorem yaf4 {m : MMach} : (zb0 (zrn MUn.name (fun _ => zko) m.units) 0 m.units.length && decide (0 < (m.units.length : Int))) = goodB.unitsB m := by
 unfold goodB.unitsB
 rw [zmp, ← zdg (i := 0), Bool.and_comm]
theorem zwd (m : MMach) (hB : Bd m) (hS : Sd m) : zas Tryz.prog (om Tryz.prog) 66 [zag m] ⟨0, []⟩ = some (.bool (goodB.unitsB m), ⟨0, []⟩) := by
 have L := zz9 m hB hS 0 (Nat.zero_le _)
 rw [← yaf4]
 simp only [Int.natCast_zero] at L
 rw [yar7 _ _ (by simp)]
 cases h : zb0 (zrn MUn.name (fun _ => zko) m.units) 0 m.units.length with
 | true =>
  rw [h] at L
  simp (maxSteps := 1000000) -implicitDefEqProofs only [↓reduceIte, ↓cond_true, ↓cond_false, sr1, sr2, kA, seval, d66, zox, n66, e66, zag, zae, L]
 | false =>
  rw [h] at L
  simp (maxSteps := 1000000) -implicitDefEqProofs only [↓reduceIte, ↓cond_true, ↓cond_false, sr1, sr2, kA, seval, d66, zox, n66, e66, zag, zae, L]
abbrev regC (r : MReg) : List AV := [.str r.name, .int .i64 r.width, .int .i64 r.of_, .int .i64 r.low]
abbrev rgH (m : MMach) (r : MReg) : Heap := ⟨2, [some (.cells 27 (zae m)), some (.cells 153 (regC r))]⟩
theorem yaeb (m : MMach) (hB : Bd m) (i : Nat) (hi : i < m.regs.length) : ∀ k, k ≤ i → lim (some [1, 3, 4]) 0 (blk 2 (om Tryz.prog ⟨64, none⟩ 0 (.loop (lpb Tryz.f64 1)) ⟨⟨94, [(1, .ptr 0 0), (3, .int .i64 i), (4, .ptr 1 0), (5, .int .i64 k)]⟩, [], rgH m m.regs[i]⟩)) =
  bif zb0 (fun k => !eqN MReg.name m.regs i k) k i then some (.normal, ⟨⟨94, [(1, .ptr 0 0), (3, .int .i64 i), (4, .ptr 1 0)]⟩, [], rgH m m.regs[i]⟩) else some (.ret, ⟨⟨94, [(2, .bool false)]⟩, [], ⟨0, []⟩⟩) := by
 have hu := hB.r
 refine zbl ?_ (fun k h ih => ?_) <;> rw [zac]
 ·simp (maxSteps := 1000000) -implicitDefEqProofs only [↓reduceIte, ↓cond_true, ↓cond_false, sr1, sr2, kA, seval, d64, zdv, n64, zib, e64, za4]
 ·have hk : k < m.regs.length := by omega
  rw [zch h, zjn hk hi]
  cases hn : decide (m.regs[k].name = m.regs[i].name) with
  | true => simp (maxSteps := 1000000) -implicitDefEqProofs only [↓reduceIte, ↓cond_true, ↓cond_false, sr1, sr2, kA, seval, d64, zdv, n64, zib, e64, dlt_t h, wi_nat (show k < 2 ^ 62 by omega), ix_sl zab hk, zgp, hn]
  | false => simp (maxSteps := 1000000) -implicitDefEqProofs only [↓reduceIte, ↓cond_true, ↓cond_false, sr1, sr2, kA, seval, d64, zdv, n64, zib, e64, dlt_t h, wi_nat (show k < 2 ^ 62 by omega), ix_sl zab hk, zgp, hn, ih]
theorem yaea (m : MMach) (hB : Bd m) (hS : Sd m) : ∀ i, i ≤ m.regs.length → lim (some [1]) 0 (blk 0 (om Tryz.prog ⟨64, none⟩ 0 (.loop (lpb Tryz.f64 0)) ⟨⟨94, [(1, .ptr 0 0), (3, .int .i64 i)]⟩, [], zb2 m⟩)) =
  bif zb0 (zrn MReg.name (fun _ => zp3 m) m.regs) i m.regs.length then some (.normal, ⟨⟨94, [(1, .ptr 0 0)]⟩, [], zb2 m⟩) else some (.ret, ⟨⟨94, [(2, .bool false)]⟩, [], ⟨0, []⟩⟩) := by
 have hu := hB.r
 refine zbl ?_ (fun i h ih => ?_) <;> rw [zac]
 ·simp (maxSteps := 1000000) -implicitDefEqProofs only [↓reduceIte, ↓cond_true, ↓cond_false, sr1, sr2, kA, seval, d64, zdv, n64, zib, e64, za4]
 ·have L := yaeb m hB i h 0 (Nat.zero_le _)
  have ej : zb0 (fun k => !eqN MReg.name m.regs i k) 0 i = ztv MReg.name m.regs i := rfl
  rw [ej] at L
  simp only [Int.natCast_zero] at L
  rw [zbq h, zk6 h]
  have hn := zc8 m.regs[i].name (hS.r _ (List.getElem_mem h))
  cases h1 : za3 m.regs[i].name with
  | false => simp (maxSteps := 1000000) -implicitDefEqProofs only [↓reduceIte, ↓cond_true, ↓cond_false, sr1, sr2, kA, seval, d64, zdv, n64, zib, e64, dlt_t h, ix_sl zab h, zgp, hn, h1]
  | true =>
   cases h2 : inR m.regs[i].width 1 64 with
   | false => simp (maxSteps := 1000000) -implicitDefEqProofs only [↓reduceIte, ↓cond_true, ↓cond_false, sr1, sr2, kA, seval, d64, zdv, n64, zib, e64, dlt_t h, ix_sl zab h, zgp, hn, h1, zap, h2, zp3]
   | true =>
    cases h3 : ztv MReg.name m.regs i with
    | false =>
     rw [h3] at L
     simp (maxSteps := 1000000) -implicitDefEqProofs only [↓reduceIte, ↓cond_true, ↓cond_false, sr1, sr2, kA, seval, d64, zdv, n64, zib, e64, dlt_t h, ix_sl zab h, zgp, hn, h1, zap, h2, L]
    | true =>
     rw [h3] at L
     cases hA : decide (m.regs[i].of_ = -1) with
     | true =>
      cases hl : decide (m.regs[i].low = 0) with
      | true => simp (maxSteps := 1000000) -implicitDefEqProofs only [↓reduceIte, ↓cond_true, ↓cond_false, sr1, sr2, kA, seval, d64, zdv, n64, zib, e64, dlt_t h, wi_nat (show i < 2 ^ 62 by omega), ix_sl zab h, zgp, hn, h1, zap, h2, zp3, L, ih, hA, hl]
      | false => simp (maxSteps := 1000000) -implicitDefEqProofs only [↓reduceIte, ↓cond_true, ↓cond_false, sr1, sr2, kA, seval, d64, zdv, n64, zib, e64, dlt_t h, ix_sl zab h, zgp, hn, h1, zap, h2, zp3, L, hA, hl]
     | false =>
      cases hI : inR m.regs[i].of_ 0 ((m.regs.length : Int) - 1) with
      | false => simp (maxSteps := 1000000) -implicitDefEqProofs only [↓reduceIte, ↓cond_true, ↓cond_false, sr1, sr2, kA, seval, d64, zdv, n64, zib, e64, dlt_t h, ix_sl zab h, zgp, hn, h1, zap, h2, zp3, L, hA, zam hu, hI]
      | true =>
       obtain ⟨z0, z1⟩ := zc4 hI
       generalize hroot : m.regs[m.regs[i].of_.toNat] = root
       have eg : m.regs[m.regs[i].of_.toNat]? = some root := by rw [List.getElem?_eq_getElem z1, hroot]
       have ez := ix_z (k := .i64) (f := zgp) (sz := 4) (c := m.pr.cap) (zab (p := m.pr) (f := zgp)) z0 z1
       rw [hroot] at ez
       have e5 : decide (root.width ≤ m.regs[i].width) = !decide (m.regs[i].width < root.width) := zfv
       cases d1 : decide (root.of_ = -1) with
       | false => simp (maxSteps := 1000000) -implicitDefEqProofs only [↓reduceIte, ↓cond_true, ↓cond_false, sr1, sr2, kA, seval, d64, zdv, n64, zib, e64, dlt_t h, ix_sl zab h, ez, zgp, hn, h1, zap, h2, zp3, L, hA, zam hu, hI, eg, d1, zwn]
       | true =>
        cases d2 : decide (m.regs[i].width < root.width) with
        | false => simp (maxSteps := 1000000) -implicitDefEqProofs only [↓reduceIte, ↓cond_true, ↓cond_false, sr1, sr2, kA, seval, d64, zdv, n64, zib, e64, dlt_t h, ix_sl zab h, ez, zgp, hn, h1, zap, h2, zp3, L, hA, zam hu, hI, eg, d1, d2, e5, zwn]
        | true =>
         cases d3 : inR root.width 1 64 with
         | false => simp (maxSteps := 1000000) -implicitDefEqProofs only [↓reduceIte, ↓cond_true, ↓cond_false, sr1, sr2, kA, seval, d64, zdv, n64, zib, e64, dlt_t h, ix_sl zab h, ez, zgp, hn, h1, zap, h2, zp3, L, hA, zam hu, hI, eg, d1, d2, d3, e5, zwn]
         | true => simp (maxSteps := 1000000) -implicitDefEqProofs only [↓reduceIte, ↓cond_true, ↓cond_false, sr1, sr2, kA, seval, d64, zdv, n64, zib, e64, dlt_t h, wi_nat (show i < 2 ^ 62 by omega), ix_sl zab h, ez, zgp, hn, h1, zap, h2, zp3, L, ih, hA, zam hu, hI, eg, d1, d2, d3, e5, zwn, yag3]
theorem yai1 {m : MMach} : (zb0 (zrn MReg.name (fun _ => zp3 m) m.regs) 0 m.regs.length && decide (0 < (m.regs.length : Int))) = zie m := by
 unfold zie
 rw [zmp, ← zdg (i := 0), Bool.and_comm]
theorem zz8 (m : MMach) (hB : Bd m) (hS : Sd m) : zas Tryz.prog (om Tryz.prog) 64 [zag m] ⟨0, []⟩ = some (.bool (zie m), ⟨0, []⟩) := by
 have L := yaea m hB hS 0 (Nat.zero_le _)
 rw [← yai1]
 simp only [Int.natCast_zero] at L
 rw [yar5 _ _ (by simp)]
 cases h : zb0 (zrn MReg.name (fun _ => zp3 m) m.regs) 0 m.regs.length with
 | true =>
  rw [h] at L
  simp (maxSteps := 1000000) -implicitDefEqProofs only [↓reduceIte, ↓cond_true, ↓cond_false, sr1, sr2, kA, seval, d64, zdv, n64, zib, e64, zag, zae, L]
 | false =>
  rw [h] at L
  simp (maxSteps := 1000000) -implicitDefEqProofs only [↓reduceIte, ↓cond_true, ↓cond_false, sr1, sr2, kA, seval, d64, zdv, n64, zib, e64, zag, zae, L]
abbrev bgH (m : MMach) (b : MBank) : Heap := ⟨2, [some (.cells 27 (zae m)), some (.cells 74 [.str b.name, .rsl (slA b.p b.regs) b.p.cap 1 (b.regs.map zat)])]⟩
theorem zz1 (m : MMach) (hB : Bd m) (i : Nat) (hi : i < m.banks.length) : ∀ k, k ≤ i → lim (some [1, 3, 4]) 0 (blk 2 (om Tryz.prog ⟨65, none⟩ 0 (.loop (lpb Tryz.f65 1)) ⟨⟨98, [(1, .ptr 0 0), (3, .int .i64 i), (4, .ptr 1 0), (5, .int .i64 k)]⟩, [], bgH m m.banks[i]⟩)) =
  bif zb0 (fun k => !eqN MBank.name m.banks i k) k i then some (.normal, ⟨⟨98, [(1, .ptr 0 0), (3, .int .i64 i), (4, .ptr 1 0)]⟩, [], bgH m m.banks[i]⟩) else some (.ret, ⟨⟨98, [(2, .bool false)]⟩, [], ⟨0, []⟩⟩) := by
 have hu := hB.b
 refine zbl ?_ (fun k h ih => ?_) <;> rw [zac]
 ·simp (maxSteps := 1000000) -implicitDefEqProofs only [↓reduceIte, ↓cond_true, ↓cond_false, sr1, sr2, kA, seval, d65, zc0, zc1, zc2, zc3, n65, zgc, e65, za4]
 ·have hk : k < m.banks.length := by omega
  rw [zch h, zjn hk hi]
  cases hn : decide (m.banks[k].name = m.banks[i].name) with
  | true => simp (maxSteps := 1000000) -implicitDefEqProofs only [↓reduceIte, ↓cond_true, ↓cond_false, sr1, sr2, kA, seval, d65, zc0, zc1, zc2, zc3, n65, zgc, e65, dlt_t h, wi_nat (show k < 2 ^ 62 by omega), ix_sl zab hk, zbv, hn]
  | false => simp (maxSteps := 1000000) -implicitDefEqProofs only [↓reduceIte, ↓cond_true, ↓cond_false, sr1, sr2, kA, seval, d65, zc0, zc1, zc2, zc3, n65, zgc, e65, dlt_t h, wi_nat (show k < 2 ^ 62 by omega), ix_sl zab hk, zbv, hn, ih]
def newR (l : List Int) (i : Nat) : Bool := zb0 (fun k => !decide (l.getD k 0 = l.getD i 0)) 0 i
theorem yain {l : List Int} {i : Nat} (hi : i < l.length) : newR l i = !zv0 (l.take i) (l.getD i 0) := by
 unfold newR zv0
 rw [Bool.eq_iff_iff, za5, Bool.not_eq_true', List.any_eq_false]
 constructor
 ·intro h x hx
  obtain ⟨k, hk, rfl⟩ := List.getElem_of_mem hx
  rw [List.length_take] at hk
  have := h k (Nat.zero_le _) (by omega)
  rw [za2 (show k < l.length by omega)] at this
  have this' : ¬ l[k] = l.getD i 0 := by simpa using this
  simp only [List.getElem_take]
  intro q
  exact this' (of_decide_eq_true q).symm
 ·intro h k _ hk
  have hk2 : k < l.length := by omega
  have := h l[k] (by rw [List.mem_take_iff_getElem]; exact ⟨k, by omega, rfl⟩)
  rw [za2 hk2, Bool.not_eq_true', decide_eq_false_iff_not]
  intro q
  exact this (decide_eq_true q.symm)
theorem zz3 (m : MMach) (i : Nat) (b : MBank) (hb : b.regs.length < 1000000) (j : Nat) (hj : j < b.regs.length) : ∀ k, k ≤ j → lim (some [1, 3, 4, 6]) 0 (blk 6 (om Tryz.prog ⟨65, none⟩ 0 (.loop (lpb Tryz.f65 3)) ⟨⟨98, [(1, .ptr 0 0), (3, .int .i64 i), (4, .ptr 1 0), (6, .int .i64 j), (7, .int .i64 k)]⟩, [], bgH m b⟩)) =
  bif zb0 (fun k => !decide (b.regs.getD k 0 = b.regs.getD j 0)) k j then some (.normal, ⟨⟨98, [(1, .ptr 0 0), (3, .int .i64 i), (4, .ptr 1 0), (6, .int .i64 j)]⟩, [], bgH m b⟩) else some (.ret, ⟨⟨98, [(2, .bool false)]⟩, [], ⟨0, []⟩⟩) := by
 refine zbl ?_ (fun k h ih => ?_) <;> rw [zac]
 ·simp (maxSteps := 1000000) -implicitDefEqProofs only [↓reduceIte, ↓cond_true, ↓cond_false, sr1, sr2, kA, seval, d65, zc0, zc1, zc2, zc3, n65, zgc, e65, za4]
 ·have hk : k < b.regs.length := by omega
  rw [zch h]
  have e1 := za2 hk
  have e2 := za2 hj
  cases hn : decide (b.regs[k] = b.regs[j]) with
  | true => simp (maxSteps := 1000000) -implicitDefEqProofs only [↓reduceIte, ↓cond_true, ↓cond_false, sr1, sr2, kA, seval, d65, zc0, zc1, zc2, zc3, n65, zgc, e65, dlt_t h, wi_nat (show k < 2 ^ 62 by omega), ix_sl zab hk, ix_sl zab hj, zat, hn, e1, e2]
  | false => simp (maxSteps := 1000000) -implicitDefEqProofs only [↓reduceIte, ↓cond_true, ↓cond_false, sr1, sr2, kA, seval, d65, zc0, zc1, zc2, zc3, n65, zgc, e65, dlt_t h, wi_nat (show k < 2 ^ 62 by omega), ix_sl zab hk, ix_sl zab hj, zat, hn, e1, e2, ih]
theorem zz2 (m : MMach) (hB : Bd m) (i : Nat) (b : MBank) (hb : b.regs.length < 1000000) : ∀ j, j ≤ b.regs.length → (0 < j → inR (b.regs.getD 0 0) 0 ((m.regs.length : Int) - 1) = true) → lim (some [1, 3]) 0 (blk 4 (om Tryz.prog ⟨65, none⟩ 0 (.loop (lpb Tryz.f65 2)) ⟨⟨98, [(1, .ptr 0 0), (3, .int .i64 i), (4, .ptr 1 0), (6, .int .i64 j)]⟩, [], bgH m b⟩)) =
  bif zb0 (zsd m b.regs) j b.regs.length then some (.normal, ⟨⟨98, [(1, .ptr 0 0), (3, .int .i64 i)]⟩, [], zb2 m⟩) else some (.ret, ⟨⟨98, [(2, .bool false)]⟩, [], ⟨0, []⟩⟩) := by
 have hu := hB.r
 refine zbl (fun h0 => ?_) (fun j h ih h0 => ?_) <;> rw [zac]
 ·simp (maxSteps := 1000000) -implicitDefEqProofs only [↓reduceIte, ↓cond_true, ↓cond_false, sr1, sr2, kA, seval, d65, zc0, zc1, zc2, zc3, n65, zgc, e65, za4]
 ·have L := zz3 m i b hb j h 0 (Nat.zero_le _)
  have ej : zb0 (fun k => !decide (b.regs.getD k 0 = b.regs.getD j 0)) 0 j = newR b.regs j := rfl
  rw [ej] at L
  simp only [Int.natCast_zero] at L
  have hw : m.regs.length < 1000000 := hu
  have e2 := za2 h
  have eP : zsd m b.regs j = (inR b.regs[j] 0 ((m.regs.length : Int) - 1) && newR b.regs j && decide (zfi m b.regs[j] = zfi m (b.regs.getD 0 0))) := by
   unfold zsd; rw [← yain h, e2]
  rw [zbq h, eP]
  cases hI : inR b.regs[j] 0 ((m.regs.length : Int) - 1) with
  | false => simp (maxSteps := 1000000) -implicitDefEqProofs only [↓reduceIte, ↓cond_true, ↓cond_false, sr1, sr2, kA, seval, d65, zc0, zc1, zc2, zc3, n65, zgc, e65, dlt_t h, ix_sl zab h, zat, zam hw, zap, hI]
  | true =>
   cases hN : newR b.regs j with
   | false =>
    rw [hN] at L
    simp (maxSteps := 1000000) -implicitDefEqProofs only [↓reduceIte, ↓cond_true, ↓cond_false, sr1, sr2, kA, seval, d65, zc0, zc1, zc2, zc3, n65, zgc, e65, dlt_t h, ix_sl zab h, zat, zam hw, zap, hI, L]
   | true =>
    rw [hN] at L
    have hz : 0 < b.regs.length := by omega
    have hI0 : inR (b.regs.getD 0 0) 0 ((m.regs.length : Int) - 1) = true := by
     by_cases q : j = 0
     ·subst q; rw [e2]; exact hI
     ·exact h0 (by omega)
    have e3 := za2 hz
    rw [e3] at hI0 ⊢
    obtain ⟨z0, z1⟩ := zc4 hI
    obtain ⟨y0, y1⟩ := zc4 hI0
    have x0 := ix_sl (k := .i64) (f := zat) (sz := 1) (c := b.p.cap) (zab (p := b.p) (f := zat)) hz
    simp only [Int.natCast_zero] at x0
    have ih' := ih (fun _ => by rw [e3]; exact hI0)
    have w1 := zct z1
    have w2 := zct y1
    cases hW : decide (m.regs[b.regs[j].toNat].width = m.regs[b.regs[0].toNat].width) with
    | true => simp (maxSteps := 1000000) -implicitDefEqProofs only [↓reduceIte, ↓cond_true, ↓cond_false, sr1, sr2, kA, seval, d65, zc0, zc1, zc2, zc3, n65, zgc, e65, dlt_t h, wi_nat (show j < 2 ^ 62 by omega), ix_sl zab h, x0, ix_z zab z0 z1, ix_z zab y0 y1, zat, zgp, zam hw, zap, hI, L, w1, w2, hW, ih']
    | false => simp (maxSteps := 1000000) -implicitDefEqProofs only [↓reduceIte, ↓cond_true, ↓cond_false, sr1, sr2, kA, seval, d65, zc0, zc1, zc2, zc3, n65, zgc, e65, dlt_t h, ix_sl zab h, x0, ix_z zab z0 z1, ix_z zab y0 y1, zat, zgp, zam hw, zap, hI, L, w1, w2, hW]
theorem zz0 (m : MMach) (hB : Bd m) (hS : Sd m) : ∀ i, i ≤ m.banks.length → lim (some []) 0 (blk 0 (om Tryz.prog ⟨65, none⟩ 0 (.loop (lpb Tryz.f65 0)) ⟨⟨98, [(1, .ptr 0 0), (3, .int .i64 i)]⟩, [], zb2 m⟩)) =
  bif zb0 (zrn MBank.name (fun _ => zm1 m) m.banks) i m.banks.length then some (.normal, ⟨⟨98, []⟩, [], ⟨0, []⟩⟩) else some (.ret, ⟨⟨98, [(2, .bool false)]⟩, [], ⟨0, []⟩⟩) := by
 have hu := hB.b
 refine zbl ?_ (fun i h ih => ?_) <;> rw [zac]
 ·simp (maxSteps := 1000000) -implicitDefEqProofs only [↓reduceIte, ↓cond_true, ↓cond_false, sr1, sr2, kA, seval, d65, zc0, zc1, zc2, zc3, n65, zgc, e65, za4]
 ·have L := zz1 m hB i h 0 (Nat.zero_le _)
  have M := zz2 m hB i m.banks[i] (hB.br _ (List.getElem_mem h)) 0 (Nat.zero_le _) (fun q => absurd q (by omega))
  have ej : zb0 (fun k => !eqN MBank.name m.banks i k) 0 i = ztv MBank.name m.banks i := rfl
  rw [ej] at L
  simp only [Int.natCast_zero] at L M
  rw [zbq h, zk6 h]
  have hn := zc8 m.banks[i].name (hS.b _ (List.getElem_mem h))
  cases h1 : za3 m.banks[i].name with
  | false => simp (maxSteps := 1000000) -implicitDefEqProofs only [↓reduceIte, ↓cond_true, ↓cond_false, sr1, sr2, kA, seval, d65, zc0, zc1, zc2, zc3, n65, zgc, e65, dlt_t h, ix_sl zab h, zbv, hn, h1]
  | true =>
   have en : decide (0 < (m.banks[i].regs.length : Int)) = !decide ((m.banks[i].regs.length : Int) = 0) := by
    by_cases q : (m.banks[i].regs.length : Int) = 0
    ·rw [q]; rfl
    ·rw [decide_eq_false q, decide_eq_true (show 0 < (m.banks[i].regs.length : Int) by omega)]; rfl
   cases h2 : decide ((m.banks[i].regs.length : Int) = 0) with
   | true => simp (maxSteps := 1000000) -implicitDefEqProofs only [↓reduceIte, ↓cond_true, ↓cond_false, sr1, sr2, kA, seval, d65, zc0, zc1, zc2, zc3, n65, zgc, e65, dlt_t h, ix_sl zab h, zbv, hn, h1, h2, zm1, en]
   | false =>
    cases h3 : ztv MBank.name m.banks i with
    | false =>
     rw [h3] at L
     simp (maxSteps := 1000000) -implicitDefEqProofs only [↓reduceIte, ↓cond_true, ↓cond_false, sr1, sr2, kA, seval, d65, zc0, zc1, zc2, zc3, n65, zgc, e65, dlt_t h, ix_sl zab h, zbv, hn, h1, h2, L]
    | true =>
     rw [h3] at L
     cases h4 : zb0 (zsd m m.banks[i].regs) 0 m.banks[i].regs.length with
     | false =>
      rw [h4] at M
      simp (maxSteps := 1000000) -implicitDefEqProofs only [↓reduceIte, ↓cond_true, ↓cond_false, sr1, sr2, kA, seval, d65, zc0, zc1, zc2, zc3, n65, zgc, e65, dlt_t h, ix_sl zab h, zbv, hn, h1, h2, zm1, en, L, M, h4]
     | true =>
      rw [h4] at M
      simp (maxSteps := 1000000) -implicitDefEqProofs only [↓reduceIte, ↓cond_true, ↓cond_false, sr1, sr2, kA, seval, d65, zc0, zc1, zc2, zc3, n65, zgc, e65, dlt_t h, wi_nat (show i < 2 ^ 62 by omega), ix_sl zab h, zbv, hn, h1, h2, zm1, en, L, M, h4, ih]
theorem yaby {m : MMach} : zb0 (zrn MBank.name (fun _ => zm1 m) m.banks) 0 m.banks.length = zdc m := by
 unfold zdc
 rw [zmp, ← zdg (i := 0)]
theorem zv9 (m : MMach) (hB : Bd m) (hS : Sd m) : zas Tryz.prog (om Tryz.prog) 65 [zag m] ⟨0, []⟩ = some (.bool (zdc m), ⟨0, []⟩) := by
 have L := zz0 m hB hS 0 (Nat.zero_le _)
 rw [yaby] at L
 simp only [Int.natCast_zero] at L
 rw [yar6 _ _ (by simp)]
 cases h : zdc m with
 | true =>
  rw [h] at L
  simp (maxSteps := 1000000) -implicitDefEqProofs only [↓reduceIte, ↓cond_true, ↓cond_false, sr1, sr2, kA, seval, d65, zc0, zc1, zc2, zc3, n65, zgc, e65, zag, zae, L]
 | false =>
  rw [h] at L
  simp (maxSteps := 1000000) -implicitDefEqProofs only [↓reduceIte, ↓cond_true, ↓cond_false, sr1, sr2, kA, seval, d65, zc0, zc1, zc2, zc3, n65, zgc, e65, zag, zae, L]
abbrev moH (m : MMach) (s : MInstr) (o : MOpd) : Heap := ⟨3, [some (.cells 27 (zae m)), some (.cells 69 (zcq s)), some (.cells 77 (yaur o))]⟩
theorem zwb (m : MMach) (s : MInstr) (hs : s.operands.length < 1000000) (i : Nat) (hi : i < s.operands.length) : ∀ k, k ≤ i → lim (some [2, 3, 4, 7]) 0 (blk 0 (om Tryz.prog ⟨90, none⟩ 0 (.loop (lpb Tryz.f90 0)) ⟨⟨152, [(2, .int .i64 i), (3, .ptr 0 0), (4, .ptr 1 0), (7, .ptr 2 0), (8, .int .i64 k)]⟩, [], moH m s s.operands[i]⟩)) =
  bif zb0 (fun k => !eqN MOpd.name s.operands i k) k i then some (.normal, ⟨⟨152, [(2, .int .i64 i), (3, .ptr 0 0), (4, .ptr 1 0), (7, .ptr 2 0)]⟩, [], moH m s s.operands[i]⟩) else some (.ret, ⟨⟨152, [(6, .bool false)]⟩, [], ⟨0, []⟩⟩) := by
 refine zbl ?_ (fun k h ih => ?_) <;> rw [zac]
 ·simp (maxSteps := 1000000) -implicitDefEqProofs only [↓reduceIte, ↓cond_true, ↓cond_false, sr1, sr2, kA, seval, d90, zfa, zcj, zck, n90, zfc, zfd, e90, za4]
 ·have hk : k < s.operands.length := by omega
  rw [zch h, zjn hk hi]
  cases hn : decide (s.operands[k].name = s.operands[i].name) with
  | true => simp (maxSteps := 1000000) -implicitDefEqProofs only [↓reduceIte, ↓cond_true, ↓cond_false, sr1, sr2, kA, seval, d90, zfa, zcj, zck, n90, zfc, zfd, e90, dlt_t h, wi_nat (show k < 2 ^ 62 by omega), ix_sl zab hk, zaq, hn]
  | false => simp (maxSteps := 1000000) -implicitDefEqProofs only [↓reduceIte, ↓cond_true, ↓cond_false, sr1, sr2, kA, seval, d90, zfa, zcj, zck, n90, zfc, zfd, e90, dlt_t h, wi_nat (show k < 2 ^ 62 by omega), ix_sl zab hk, zaq, hn, ih]
def zdp (m : MMach) (s : MInstr) (i : Nat) (o : MOpd) : Bool := (za3 o.name && (!decide (o.name = pcN) && zkb m.word o)) && (ztv MOpd.name s.operands i && zbx m s i o)
theorem yai9 {n : Nat} (h : n ≤ 6) : shl1 (n : Int) = ((2 ^ n : Nat) : Int) := by
 rcases (show n = 0 ∨ n = 1 ∨ n = 2 ∨ n = 3 ∨ n = 4 ∨ n = 5 ∨ n = 6 by omega) with rfl | rfl | rfl | rfl | rfl | rfl | rfl <;> decide
theorem zri (m : MMach) (hB : Bd m) (s : MInstr) (hs : s.operands.length < 1000000) (i : Nat) (h : i < s.operands.length) (hp : s.operands[i].pieces.length < 1000000) (hn : s.operands[i].name.size < 2 ^ 62) :
  zas Tryz.prog (om Tryz.prog) 90 [zag m, zad s, .int .i64 i] ⟨0, []⟩ = some (.bool (zdp m s i s.operands[i]), ⟨0, []⟩) := by
 have L := zwb m s hs i h 0 (Nat.zero_le _)
 have hN := zc8 _ hn
 have hP := zt0 s.operands[i] m.word (by omega)
 have hF := zpp s.operands[i] (by omega)
 have ej : zb0 (fun k => !eqN MOpd.name s.operands i k) 0 i = ztv MOpd.name s.operands i := rfl
 have pc : (ByteArray.mk #[112, 99]) = pcN := rfl
 rw [ej] at L
 have eix := ix_sl (k := .i64) (f := zaq) (sz := 6) (c := s.po.cap) (zab (p := s.po) (f := zaq)) h
 generalize s.operands[i] = o at *
 simp only [zaq] at hP hF
 simp only [moH, Int.natCast_zero] at L
 have en : decide (0 < (o.pieces.length : Int)) = !decide ((o.pieces.length : Int) = 0) := by
  by_cases q : (o.pieces.length : Int) = 0
  ·rw [q]; rfl
  ·rw [decide_eq_false q, decide_eq_true (show 0 < (o.pieces.length : Int) by omega)]; rfl
 rw [yasj _ _ (by simp)]
 cases h1 : za3 o.name with
 | false => simp (maxSteps := 1000000) -implicitDefEqProofs only [↓reduceIte, ↓cond_true, ↓cond_false, sr1, sr2, kA, seval, d90, zfa, zcj, zck, n90, zfc, zfd, e90, zag, zae, zad, eix, zaq, hN, h1, zdp]
 | true =>
 cases h2 : decide (o.name = pcN) with
 | true => simp (maxSteps := 1000000) -implicitDefEqProofs only [↓reduceIte, ↓cond_true, ↓cond_false, sr1, sr2, kA, seval, d90, zfa, zcj, zck, n90, zfc, zfd, e90, zag, zae, zad, eix, zaq, hN, h1, pc, h2, zdp]
 | false =>
 cases h3 : zkb m.word o with
 | false => simp (maxSteps := 1000000) -implicitDefEqProofs only [↓reduceIte, ↓cond_true, ↓cond_false, sr1, sr2, kA, seval, d90, zfa, zcj, zck, n90, zfc, zfd, e90, zag, zae, zad, eix, zaq, hN, h1, pc, h2, hP, h3, zdp]
 | true =>
 cases h4 : ztv MOpd.name s.operands i with
 | false =>
  rw [h4] at L
  simp (maxSteps := 1000000) -implicitDefEqProofs only [↓reduceIte, ↓cond_true, ↓cond_false, sr1, sr2, kA, seval, d90, zfa, zcj, zck, n90, zfc, zfd, e90, zag, zae, zad, eix, zaq, hN, h1, pc, h2, hP, h3, L, zdp, h4]
 | true =>
 rw [h4] at L
 by_cases k1 : o.kind = 1
 ·have k1d := decide_eq_true k1
  cases hb : inR o.bank 0 ((m.banks.length : Int) - 1) with
  | false => simp (maxSteps := 1000000) -implicitDefEqProofs only [↓reduceIte, ↓cond_true, ↓cond_false, sr1, sr2, kA, seval, d90, zfa, zcj, zck, n90, zfc, zfd, e90, zag, zae, zad, eix, zaq, hN, h1, pc, h2, hP, h3, L, zdp, h4, k1d, zap, zam hB.b, hb, zbx]
  | true =>
  obtain ⟨b0, b1⟩ := zc4 hb
  cases hsc : decide (o.scale = 0) with
  | false => simp (maxSteps := 1000000) -implicitDefEqProofs only [↓reduceIte, ↓cond_true, ↓cond_false, sr1, sr2, kA, seval, d90, zfa, zcj, zck, n90, zfc, zfd, e90, zag, zae, zad, eix, zaq, hN, h1, pc, h2, hP, h3, L, zdp, h4, k1d, zap, zam hB.b, hb, hsc, zbx]
  | true =>
  cases ht : decide (o.tied = -1) with
  | true =>
   cases f0 : decide (0 < zao o) with
   | false => simp (maxSteps := 1000000) -implicitDefEqProofs only [↓reduceIte, ↓cond_true, ↓cond_false, sr1, sr2, kA, seval, d90, zfa, zcj, zck, n90, zfc, zfd, e90, zag, zae, zad, eix, zaq, hN, h1, pc, h2, hP, h3, L, zdp, h4, k1d, zap, zam hB.b, hb, hsc, ht, hF, f0, zbx, znx]
   | true =>
   cases f6 : decide (6 < zao o) with
   | true => simp (maxSteps := 1000000) -implicitDefEqProofs only [↓reduceIte, ↓cond_true, ↓cond_false, sr1, sr2, kA, seval, d90, zfa, zcj, zck, n90, zfc, zfd, e90, zag, zae, zad, eix, zaq, hN, h1, pc, h2, hP, h3, L, zdp, h4, k1d, zap, zam hB.b, hb, hsc, ht, hF, f0, f6, zbx, znx]
   | false =>
    have g0 := of_decide_eq_true f0
    have g6 := of_decide_eq_false f6
    have hpw := zke (zao o).toNat (by omega)
    have hsh := yai9 (n := (zao o).toNat) (by omega)
    rw [show (((zao o).toNat : Nat) : Int) = zao o by omega] at hpw hsh
    have ebl : zm0 m o.bank = (m.banks[o.bank.toNat].regs.length : Int) := by unfold zm0; rw [List.getElem?_eq_getElem b1]
    simp (maxSteps := 1000000) -implicitDefEqProofs only [↓reduceIte, ↓cond_true, ↓cond_false, sr1, sr2, kA, seval, d90, zfa, zcj, zck, n90, zfc, zfd, e90, zag, zae, zad, eix, zaq, hN, h1, pc, h2, hP, h3, L, zdp, h4, k1d, zap, zam hB.b, hb, hsc, ht, hF, f0, f6, ix_z zab b0 b1, zbv, hpw, hsh, ebl, zbx, znx]
  | false =>
   have wi : IntKind.i64.wrap ((i : Int) - 1) = (i : Int) - 1 := zdr (by omega) (by omega)
   cases hx : inR o.tied 0 ((i : Int) - 1) with
   | false => simp (maxSteps := 1000000) -implicitDefEqProofs only [↓reduceIte, ↓cond_true, ↓cond_false, sr1, sr2, kA, seval, d90, zfa, zcj, zck, n90, zfc, zfd, e90, zag, zae, zad, eix, zaq, hN, h1, pc, h2, hP, h3, L, zdp, h4, k1d, zap, zam hB.b, hb, hsc, ht, wi, hx, zbx, ziv]
   | true =>
   cases hl : decide ((o.pieces.length : Int) = 0) with
   | false => simp (maxSteps := 1000000) -implicitDefEqProofs only [↓reduceIte, ↓cond_true, ↓cond_false, sr1, sr2, kA, seval, d90, zfa, zcj, zck, n90, zfc, zfd, e90, zag, zae, zad, eix, zaq, hN, h1, pc, h2, hP, h3, L, zdp, h4, k1d, zap, zam hB.b, hb, hsc, ht, wi, hx, en, hl, zbx, ziv]
   | true =>
    have hx' : 0 ≤ o.tied ∧ o.tied ≤ (i : Int) - 1 := by simpa [inR] using hx
    have t1 : o.tied.toNat < s.operands.length := by omega
    have etq : yaax s o = (decide (s.operands[o.tied.toNat].kind = 1) && (decide (s.operands[o.tied.toNat].bank = o.bank) && decide (s.operands[o.tied.toNat].tied = -1))) := by unfold yaax; rw [List.getElem?_eq_getElem t1]
    simp (maxSteps := 1000000) -implicitDefEqProofs only [↓reduceIte, ↓cond_true, ↓cond_false, sr1, sr2, kA, seval, d90, zfa, zcj, zck, n90, zfc, zfd, e90, zag, zae, zad, eix, zaq, hN, h1, pc, h2, hP, h3, L, zdp, h4, k1d, zap, zam hB.b, hb, hsc, ht, wi, hx, en, hl, ix_z zab hx'.1 t1, etq, zbx, ziv, Bool.and_assoc]
 ·have k1' := decide_eq_false k1
  cases k2 : (decide (o.kind = 2) || (decide (o.kind = 3) || decide (o.kind = 4))) with
  | false =>
   have k2' := k2
   simp only [Bool.or_eq_false_iff] at k2'
   simp (maxSteps := 1000000) -implicitDefEqProofs only [↓reduceIte, ↓cond_true, ↓cond_false, sr1, sr2, kA, seval, d90, zfa, zcj, zck, n90, zfc, zfd, e90, zag, zae, zad, eix, zaq, hN, h1, pc, h2, hP, h3, L, zdp, h4, k1', k2'.1, k2'.2.1, k2'.2.2, zbx]
  | true =>
   have tri : (decide (o.kind = 2) = true ∧ decide (o.kind = 3) = false ∧ decide (o.kind = 4) = false) ∨ (decide (o.kind = 2) = false ∧ decide (o.kind = 3) = true ∧ decide (o.kind = 4) = false) ∨ (decide (o.kind = 2) = false ∧ decide (o.kind = 3) = false ∧ decide (o.kind = 4) = true) := by
    simp only [Bool.or_eq_true, decide_eq_true_eq] at k2
    simp only [decide_eq_true_eq, decide_eq_false_iff_not]
    omega
   rcases tri with ⟨d2, d3, d4⟩ | ⟨d2, d3, d4⟩ | ⟨d2, d3, d4⟩
   all_goals
    cases c1 : decide (o.bank = 0) with
    | false => simp (maxSteps := 1000000) -implicitDefEqProofs only [↓reduceIte, ↓cond_true, ↓cond_false, sr1, sr2, kA, seval, d90, zfa, zcj, zck, n90, zfc, zfd, e90, zag, zae, zad, eix, zaq, hN, h1, pc, h2, hP, h3, L, zdp, h4, k1', d2, d3, d4, zap, hF, c1, zbx, zl9]
    | true =>
     cases c2 : decide (o.tied = -1) with
     | false => simp (maxSteps := 1000000) -implicitDefEqProofs only [↓reduceIte, ↓cond_true, ↓cond_false, sr1, sr2, kA, seval, d90, zfa, zcj, zck, n90, zfc, zfd, e90, zag, zae, zad, eix, zaq, hN, h1, pc, h2, hP, h3, L, zdp, h4, k1', d2, d3, d4, zap, hF, c1, c2, zbx, zl9]
     | true =>
      cases c3 : inR o.scale 0 3 with
      | false => simp (maxSteps := 1000000) -implicitDefEqProofs only [↓reduceIte, ↓cond_true, ↓cond_false, sr1, sr2, kA, seval, d90, zfa, zcj, zck, n90, zfc, zfd, e90, zag, zae, zad, eix, zaq, hN, h1, pc, h2, hP, h3, L, zdp, h4, k1', d2, d3, d4, zap, hF, c1, c2, c3, zbx, zl9]
      | true =>
       cases c4 : decide (0 < zao o) with
       | false => simp (maxSteps := 1000000) -implicitDefEqProofs only [↓reduceIte, ↓cond_true, ↓cond_false, sr1, sr2, kA, seval, d90, zfa, zcj, zck, n90, zfc, zfd, e90, zag, zae, zad, eix, zaq, hN, h1, pc, h2, hP, h3, L, zdp, h4, k1', d2, d3, d4, zap, hF, c1, c2, c3, c4, zbx, zl9]
       | true => simp (maxSteps := 1000000) -implicitDefEqProofs only [↓reduceIte, ↓cond_true, ↓cond_false, sr1, sr2, kA, seval, d90, zfa, zcj, zck, n90, zfc, zfd, e90, zag, zae, zad, eix, zaq, hN, h1, pc, h2, hP, h3, L, zdp, h4, k1', d2, d3, d4, zap, hF, c1, c2, c3, c4, zbx, zl9]
abbrev miH (m : MMach) (s : MInstr) : Heap := ⟨2, [some (.cells 27 (zae m)), some (.cells 69 (zcq s))]⟩
def PcOk (s : MInstr) : Prop := ∀ o ∈ s.operands, ∀ p ∈ o.pieces, 0 ≤ p.at_ ∧ 1 ≤ p.len ∧ p.at_ + p.len ≤ 64
theorem yapn {p : MPiece} (h : 0 ≤ p.at_ ∧ 1 ≤ p.len ∧ p.at_ + p.len ≤ 64) (b : Nat) : inR (b : Int) p.at_ (IntKind.i64.wrap (IntKind.i64.wrap (p.at_ + p.len) - 1)) = pin p b := by
 have e1 : IntKind.i64.wrap (p.at_ + p.len) = p.at_ + p.len := zdr (by omega) (by omega)
 have e2 : IntKind.i64.wrap (p.at_ + p.len - 1) = p.at_ + p.len - 1 := zdr (by omega) (by omega)
 rw [e1, e2]
 unfold inR pin
 congr 1
 rw [Bool.eq_iff_iff, decide_eq_true_iff, decide_eq_true_iff]; omega
theorem yacd {l : List MPiece} {k b : Nat} (h : k < l.length) : zfl (l.drop k) b = one (pin l[k] b) + zfl (l.drop (k + 1)) b := by
 rw [List.drop_eq_getElem_cons h]
 simp only [zfl, List.countP_cons, one]
 omega
theorem yag1 {l : List MPiece} {b : Nat} : zfl (l.drop l.length) b = 0 := by rw [List.drop_length]; rfl
theorem yany {l : List MPiece} {b : Nat} : zfl l b ≤ l.length := List.countP_le_length
theorem yagt (m : MMach) (s : MInstr) (hs : PcOk s) (b i : Nat) (hi : i < s.operands.length) (hp : s.operands[i].pieces.length < 1000000) : ∀ k, k ≤ s.operands[i].pieces.length → ∀ n : Nat, n ≤ 1000000000000 → lim (some [2, 3, 5, 6, 7]) 0 (blk 4 (om Tryz.prog ⟨91, none⟩ 0 (.loop (lpb Tryz.f91 2)) ⟨⟨62, [(2, .ptr 0 0), (3, .ptr 1 0), (5, .int .i64 b), (6, .int .i64 n), (7, .int .i64 i), (8, .int .i64 k)]⟩, [], miH m s⟩)) =
  some (.normal, ⟨⟨62, [(2, .ptr 0 0), (3, .ptr 1 0), (5, .int .i64 b), (6, .int .i64 ((n + zfl (s.operands[i].pieces.drop k) b : Nat) : Int)), (7, .int .i64 i)]⟩, [], miH m s⟩) := by
 have hq := hs _ (List.getElem_mem hi)
 have eo := ix_sl (k := .i64) (f := zaq) (sz := 6) (c := s.po.cap) (zab (p := s.po) (f := zaq)) hi
 generalize s.operands[i] = o at *
 intro k hk n hn
 have key : ∀ k, k ≤ o.pieces.length → ∀ n : Nat, n + (o.pieces.length - k) ≤ 2000000000000 → lim (some [2, 3, 5, 6, 7]) 0 (blk 4 (om Tryz.prog ⟨91, none⟩ 0 (.loop (lpb Tryz.f91 2)) ⟨⟨62, [(2, .ptr 0 0), (3, .ptr 1 0), (5, .int .i64 b), (6, .int .i64 n), (7, .int .i64 i), (8, .int .i64 k)]⟩, [], miH m s⟩)) =
  some (.normal, ⟨⟨62, [(2, .ptr 0 0), (3, .ptr 1 0), (5, .int .i64 b), (6, .int .i64 ((n + zfl (o.pieces.drop k) b : Nat) : Int)), (7, .int .i64 i)]⟩, [], miH m s⟩) := by
  refine zbl (fun n hn => ?_) (fun k h ih n hn => ?_) <;> rw [zac]
  ·simp (maxSteps := 1000000) -implicitDefEqProofs only [↓reduceIte, ↓cond_true, ↓cond_false, sr1, sr2, kA, seval, d91, n91, zo8, e91, eo, zaq, yag1]
  ·have hx := yapn (hq _ (List.getElem_mem h)) b
   rw [yacd h]
   cases hb : pin o.pieces[k] b with
   | true =>
    rw [hb] at hx
    have L := ih (n + 1) (by omega)
    have e1 : one true = 1 := rfl
    rw [e1, ← Nat.add_assoc]
    simp (maxSteps := 1000000) -implicitDefEqProofs only [↓reduceIte, ↓cond_true, ↓cond_false, sr1, sr2, kA, seval, d91, n91, zo8, e91, dlt_t h, wi_nat (show k < 2 ^ 62 by omega), wi_nat (show n < 2 ^ 62 by omega), eo, zaq, ix_sl zab h, ze4, zap, hx, L]
   | false =>
    rw [hb] at hx
    have L := ih n (by omega)
    have e0 : one false = 0 := rfl
    rw [e0, Nat.zero_add]
    simp (maxSteps := 1000000) -implicitDefEqProofs only [↓reduceIte, ↓cond_true, ↓cond_false, sr1, sr2, kA, seval, d91, n91, zo8, e91, dlt_t h, wi_nat (show k < 2 ^ 62 by omega), eo, zaq, ix_sl zab h, ze4, zap, hx, L]
 exact key k hk n (by omega)
theorem yags (m : MMach) (s : MInstr) (hs : PcOk s) (hl : s.operands.length < 100000) (hp : ∀ o ∈ s.operands, o.pieces.length < 1000000) (b : Nat) : ∀ i, i ≤ s.operands.length → ∀ n : Nat, n + (s.operands.length - i) * 1000000 ≤ 1000000000000 → lim (some [2, 3, 5, 6]) 0 (blk 2 (om Tryz.prog ⟨91, none⟩ 0 (.loop (lpb Tryz.f91 1)) ⟨⟨62, [(2, .ptr 0 0), (3, .ptr 1 0), (5, .int .i64 b), (6, .int .i64 n), (7, .int .i64 i)]⟩, [], miH m s⟩)) =
  some (.normal, ⟨⟨62, [(2, .ptr 0 0), (3, .ptr 1 0), (5, .int .i64 b), (6, .int .i64 ((n + zfl (zw6 (s.operands.drop i)) b : Nat) : Int))]⟩, [], miH m s⟩) := by
 refine zbl (fun n hn => ?_) (fun i h ih n hn => ?_) <;> rw [zac]
 ·simp (maxSteps := 1000000) -implicitDefEqProofs only [↓reduceIte, ↓cond_true, ↓cond_false, sr1, sr2, kA, seval, d91, n91, zo8, e91, List.drop_length, zw6, List.flatMap_nil, zfl, List.countP_nil]
 ·have hpi := hp _ (List.getElem_mem h)
  have L2 := yagt m s hs b i h hpi 0 (Nat.zero_le _) n (by omega)
  have hc : zfl s.operands[i].pieces b ≤ s.operands[i].pieces.length := yany
  have L := ih (n + zfl s.operands[i].pieces b) (by omega)
  have e : zfl (zw6 (s.operands.drop i)) b = zfl s.operands[i].pieces b + zfl (zw6 (s.operands.drop (i + 1))) b := by
   rw [List.drop_eq_getElem_cons h]; simp only [zw6, List.flatMap_cons, zxo]
  rw [e, ← Nat.add_assoc]
  simp only [Int.natCast_zero, List.drop_zero] at L2
  simp (maxSteps := 1000000) -implicitDefEqProofs only [↓reduceIte, ↓cond_true, ↓cond_false, sr1, sr2, kA, seval, d91, n91, zo8, e91, dlt_t h, wi_nat (show i < 2 ^ 62 by omega), L2, L]
def zgj (s : MInstr) (b : Nat) : Bool := !decide (1 < one (tb s.mask b) + zfl (zw6 s.operands) b)
theorem yagr (m : MMach) (s : MInstr) (hs : PcOk s) (hl : s.operands.length < 100000) (hp : ∀ o ∈ s.operands, o.pieces.length < 1000000) (h0 : 0 ≤ s.mask) (h1 : s.mask < 2 ^ 64) (W : Nat) (hW : IntKind.i64.wrap (8 * m.word) = (W : Int)) (hW2 : W ≤ 64) : ∀ b, b ≤ W → lim (some []) 0 (blk 0 (om Tryz.prog ⟨91, none⟩ 0 (.loop (lpb Tryz.f91 0)) ⟨⟨62, [(2, .ptr 0 0), (3, .ptr 1 0), (5, .int .i64 b)]⟩, [], miH m s⟩)) =
  bif zb0 (zgj s) b W then some (.normal, ⟨⟨62, []⟩, [], ⟨0, []⟩⟩) else some (.ret, ⟨⟨62, [(4, .bool false)]⟩, [], ⟨0, []⟩⟩) := by
 refine zbl ?_ (fun b h ih => ?_) <;> rw [zac]
 ·simp (maxSteps := 1000000) -implicitDefEqProofs only [↓reduceIte, ↓cond_true, ↓cond_false, sr1, sr2, kA, seval, d91, n91, zo8, e91, za4, hW]
 ·have hb := zu8 b (by omega) s.mask h0 h1
  have eb : bitS s.mask b = ((one (tb s.mask b) : Nat) : Int) := by
   rw [zu7 h0 h1]; unfold one; cases tb s.mask b <;> rfl
  rw [eb] at hb
  have h2 : one (tb s.mask b) ≤ 1 := by unfold one; split <;> omega
  have L := yags m s hs hl hp b 0 (Nat.zero_le _) (one (tb s.mask b)) (by omega)
  rw [List.drop_zero] at L
  simp only [Int.natCast_zero] at L
  have ed : decide ((1 : Int) < ((one (tb s.mask b) + zfl (zw6 s.operands) b : Nat) : Int)) = !zgj s b := by
   unfold zgj
   rw [Bool.not_not, Bool.eq_iff_iff, decide_eq_true_iff, decide_eq_true_iff]; omega
  rw [zbq h]
  cases ha : zgj s b with
  | true =>
   rw [ha] at ed
   simp (maxSteps := 1000000) -implicitDefEqProofs only [↓reduceIte, ↓cond_true, ↓cond_false, sr1, sr2, kA, seval, d91, n91, zo8, e91, dlt_t h, wi_nat (show b < 2 ^ 62 by omega), hW, hb, L, ed, ih]
  | false =>
   rw [ha] at ed
   simp (maxSteps := 1000000) -implicitDefEqProofs only [↓reduceIte, ↓cond_true, ↓cond_false, sr1, sr2, kA, seval, d91, n91, zo8, e91, dlt_t h, hW, hb, L, ed]
theorem yabv (m : MMach) (s : MInstr) (hs : PcOk s) (hl : s.operands.length < 100000) (hp : ∀ o ∈ s.operands, o.pieces.length < 1000000) (h0 : 0 ≤ s.mask) (h1 : s.mask < 2 ^ 64) (W : Nat) (hW : IntKind.i64.wrap (8 * m.word) = (W : Int)) (hW2 : W ≤ 64) : zas Tryz.prog (om Tryz.prog) 91 [zag m, zad s] ⟨0, []⟩ = some (.bool (zb0 (zgj s) 0 W), ⟨0, []⟩) := by
 have L := yagr m s hs hl hp h0 h1 W hW hW2 0 (Nat.zero_le _)
 simp only [Int.natCast_zero, miH] at L
 rw [yask _ _ (by simp)]
 cases h : zb0 (zgj s) 0 W with
 | true =>
  rw [h] at L
  simp (maxSteps := 1000000) -implicitDefEqProofs only [↓reduceIte, ↓cond_true, ↓cond_false, sr1, sr2, kA, seval, d91, n91, zo8, e91, zag, zae, zad, L]
 | false =>
  rw [h] at L
  simp (maxSteps := 1000000) -implicitDefEqProofs only [↓reduceIte, ↓cond_true, ↓cond_false, sr1, sr2, kA, seval, d91, n91, zo8, e91, zag, zae, zad, L]
theorem zs4 {α : Type} {p : α → Bool} {l : List α} {i : Nat} (h : i < l.length) : (l.drop i).find? p = bif p l[i] then some l[i] else (l.drop (i + 1)).find? p := by
 rw [List.drop_eq_getElem_cons h, List.find?_cons]
 by_cases q : p l[i] = true
 ·rw [q]; rfl
 ·rw [Bool.not_eq_true] at q; rw [q]; rfl
def yaaj (m : MMach) (n : ByteArray) (w : Int) (x : Option MOpd) : Rx := match x with
 | some o => some (.ret, ⟨⟨65, [(8, .bool (decide (w = zmb m o)))]⟩, [], ⟨0, []⟩⟩)
 | none => some (.normal, ⟨⟨65, [(2, .str n), (3, .int .i64 w), (4, .ptr 0 0)]⟩, [], ⟨1, [some (.cells 27 (zae m))]⟩⟩)
theorem zwx (m : MMach) (s : MInstr) (hs : s.operands.length < 1000000) (hW : ∀ o ∈ s.operands, o.kind = 1 → zet m o) (n : ByteArray) (w : Int) : ∀ i, i ≤ s.operands.length → lim (some [2, 3, 4]) 0 (blk 0 (om Tryz.prog ⟨162, none⟩ 0 (.loop (lpb Tryz.f162 0)) ⟨⟨65, [(2, .str n), (3, .int .i64 w), (4, .ptr 0 0), (5, .ptr 1 0), (9, .int .i64 i)]⟩, [], miH m s⟩)) =
  yaaj m n w ((s.operands.drop i).find? fun o => decide (o.name = n)) := by
 refine zbl ?_ (fun i h ih => ?_) <;> rw [zac]
 ·simp (maxSteps := 1000000) -implicitDefEqProofs only [↓reduceIte, ↓cond_true, ↓cond_false, sr1, sr2, kA, seval, d162, zij, n162, zis, e162, List.drop_length, List.find?_nil, yaaj]
 ·have hw := zut m s.operands[i] (hW _ (List.getElem_mem h))
  simp only [zag, zae, zaq] at hw
  rw [zs4 h]
  cases hn : decide (s.operands[i].name = n) with
  | true => simp (maxSteps := 1000000) -implicitDefEqProofs only [↓reduceIte, ↓cond_true, ↓cond_false, sr1, sr2, kA, seval, d162, zij, n162, zis, e162, dlt_t h, ix_sl zab h, zaq, hn, hw, yaaj]
  | false => simp (maxSteps := 1000000) -implicitDefEqProofs only [↓reduceIte, ↓cond_true, ↓cond_false, sr1, sr2, kA, seval, d162, zij, n162, zis, e162, dlt_t h, wi_nat (show i < 2 ^ 62 by omega), ix_sl zab h, zaq, hn, ih]
def yae2 (w : Int) (x : Option MReg) : Rx := match x with
 | some r => some (.ret, ⟨⟨65, [(8, .bool (decide (w = r.width)))]⟩, [], ⟨0, []⟩⟩)
 | none => some (.normal, ⟨⟨65, []⟩, [], ⟨0, []⟩⟩)
theorem zwy (m : MMach) (hB : Bd m) (hN : ∀ r ∈ m.regs, r.name.size < 1000000) (n : ByteArray) (w : Int) : ∀ i, i ≤ m.regs.length → lim (some []) 0 (blk 2 (om Tryz.prog ⟨162, none⟩ 0 (.loop (lpb Tryz.f162 1)) ⟨⟨65, [(2, .str n), (3, .int .i64 w), (4, .ptr 0 0), (10, .int .i64 i)]⟩, [], ⟨1, [some (.cells 27 (zae m))]⟩⟩)) =
  yae2 w ((m.regs.drop i).find? fun r => decide (rDot ++ r.name = n)) := by
 have hu := hB.r
 have pd : (ByteArray.mk #[114, 46]) = rDot := rfl
 refine zbl ?_ (fun i h ih => ?_) <;> rw [zac]
 ·simp (maxSteps := 1000000) -implicitDefEqProofs only [↓reduceIte, ↓cond_true, ↓cond_false, sr1, sr2, kA, seval, d162, zij, n162, zis, e162, List.drop_length, List.find?_nil, yae2]
 ·have hn := hN _ (List.getElem_mem h)
  have ha := yabe (a := rDot) (b := m.regs[i].name) (by rw [zua]; omega)
  rw [zs4 h]
  cases hn : decide (rDot ++ m.regs[i].name = n) with
  | true => simp (maxSteps := 1000000) -implicitDefEqProofs only [↓reduceIte, ↓cond_true, ↓cond_false, sr1, sr2, kA, seval, d162, zij, n162, zis, e162, dlt_t h, ix_sl zab h, zgp, pd, ha, hn, yae2]
  | false => simp (maxSteps := 1000000) -implicitDefEqProofs only [↓reduceIte, ↓cond_true, ↓cond_false, sr1, sr2, kA, seval, d162, zij, n162, zis, e162, dlt_t h, wi_nat (show i < 2 ^ 62 by omega), ix_sl zab h, zgp, pd, ha, hn, ih]
theorem zup (m : MMach) (hB : Bd m) (hN : ∀ r ∈ m.regs, r.name.size < 1000000) (s : MInstr) (hs : s.operands.length < 1000000) (hW : ∀ o ∈ s.operands, o.kind = 1 → zet m o) (n : ByteArray) (w : Int) : zas Tryz.prog (om Tryz.prog) 162 [zag m, zad s, .str n, .int .i64 w] ⟨0, []⟩ = some (.bool (zfz m s n w), ⟨0, []⟩) := by
 have L0 := zwx m s hs hW n w 0 (Nat.zero_le _)
 have L1 := zwy m hB hN n w 0 (Nat.zero_le _)
 have pc : (ByteArray.mk #[112, 99]) = pcN := rfl
 simp only [Int.natCast_zero, List.drop_zero, miH] at L0 L1
 unfold zfz
 rw [zwz, zr4]
 rw [yand _ _ (by simp)]
 cases hp : decide (n = pcN) with
 | true => simp (maxSteps := 1000000) -implicitDefEqProofs only [↓reduceIte, ↓cond_true, ↓cond_false, sr1, sr2, kA, seval, d162, zij, n162, zis, e162, zag, zae, zad, pc, hp]
 | false =>
  cases h0 : s.operands.find? (fun o => decide (o.name = n)) with
  | some o =>
   rw [h0] at L0
   simp (maxSteps := 1000000) -implicitDefEqProofs only [↓reduceIte, ↓cond_true, ↓cond_false, sr1, sr2, kA, seval, d162, zij, n162, zis, e162, zag, zae, zad, pc, hp, L0, yaaj]
  | none =>
   rw [h0] at L0
   cases h1 : m.regs.find? (fun r => decide (rDot ++ r.name = n)) with
   | some r =>
    rw [h1] at L1
    simp (maxSteps := 1000000) -implicitDefEqProofs only [↓reduceIte, ↓cond_true, ↓cond_false, sr1, sr2, kA, seval, d162, zij, n162, zis, e162, zag, zae, zad, pc, hp, L0, L1, yaaj, yae2]
   | none =>
    rw [h1] at L1
    simp (maxSteps := 1000000) -implicitDefEqProofs only [↓reduceIte, ↓cond_true, ↓cond_false, sr1, sr2, kA, seval, d162, zij, n162, zis, e162, zag, zae, zad, pc, hp, L0, L1, yaaj, yae2]
end Go.Proofs.YtibehelnfbcnjaaGreatDoor.v
