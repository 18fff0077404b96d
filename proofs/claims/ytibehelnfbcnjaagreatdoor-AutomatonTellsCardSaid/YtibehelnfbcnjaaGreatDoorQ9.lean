/- What the law's proof leans on, part 28. Conditions: in each statement. -/
import Derived.Test.YtibehelnfbcnjaaGreatDoorQ8
import Derived.Test.YtibehelnfbcnjaaGreatDoorQ4
import Derived.Test.YtibehelnfbcnjaaGreatDoorQ6
set_option linter.all false
namespace Go.Proofs.YtibehelnfbcnjaaGreatDoor.v
open Go Go.Ab
set_option maxRecDepth 100000
set_option maxHeartbeats 4000000
set_option linter.unusedSimpArgs false
set_option linter.unusedVariables false
structure RawM (m : MMach) : Prop where
 r : m.regs.length < 2 ^ 62
 b : m.banks.length < 2 ^ 62
 u : m.units.length < 2 ^ 62
 i : m.instrs.length < 2 ^ 62
 n : m.name.size < 2 ^ 62
 o : ∀ s ∈ m.instrs, s.operands.length < 2 ^ 62
 e : ∀ s ∈ m.instrs, s.effects.length < 2 ^ 62
 t : ∀ s ∈ m.instrs, ∀ x ∈ s.effects, RawT x.addr ∧ RawT x.value ∧ RawT x.cond
def szE (x : MEff) : Nat := x.addr.sz + x.value.sz + x.cond.sz
def efF (n : Nat) (l : List MEff) : Nat := l.foldl (fun n x => n + szE x) n
def inF (n : Nat) (l : List MInstr) : Nat := l.foldl (fun n s => efF n s.effects) n
def SmE (x : MEff) : Prop := x.addr.sz ≤ 500 ∧ x.value.sz ≤ 500 ∧ x.cond.sz ≤ 500
theorem yakd : ∀ {l : List MEff} {n : Nat}, (∀ x ∈ l, SmE x) → n ≤ efF n l ∧ efF n l ≤ n + 1500 * l.length
 | [], n, _ => by simp [efF]
 | x :: l, n, h => by
  have hx := h x (by simp)
  have := yakd (l := l) (n := n + szE x) (fun y hy => h y (by simp [hy]))
  unfold efF at this ⊢
  rw [List.foldl_cons]
  have : szE x ≤ 1500 := by unfold szE; unfold SmE at hx; omega
  simp only [List.length_cons]
  omega
theorem yair (m : MMach) (i : Nat) (hi : i < m.instrs.length) (hl : m.instrs[i].effects.length < 1000) (hS : ∀ x ∈ m.instrs[i].effects, SmE x) : ∀ k, k ≤ m.instrs[i].effects.length → ∀ n : Nat, n + 1500 * (m.instrs[i].effects.length - k) ≤ 1000000000 → lim (some [1, 3, 4]) 0 (blk 2 (om Tryz.prog ⟨25, none⟩ 0 (.loop (lpb Tryz.f25 1)) ⟨⟨48, [(1, .ptr 0 0), (3, .int .i64 n), (4, .int .i64 i), (5, .int .i64 k)]⟩, [], zb2 m⟩)) =
  some (.normal, ⟨⟨48, [(1, .ptr 0 0), (3, .int .i64 ((efF n (m.instrs[i].effects.drop k) : Nat) : Int)), (4, .int .i64 i)]⟩, [], zb2 m⟩) := by
 have ei := ix_sl (k := .i64) (f := zad) (sz := 9) (c := m.pi.cap) (zab (p := m.pi) (f := zad)) hi
 generalize m.instrs[i] = s at *
 refine zbl (fun n hn => ?_) (fun k h ih n hn => ?_) <;> rw [zac]
 ·simp (maxSteps := 1000000) -implicitDefEqProofs only [↓reduceIte, ↓cond_true, ↓cond_false, sr1, sr2, kA, seval, d25, yacv, n25, e25, ei, zad, List.drop_length, efF, List.foldl_nil]
 ·have hx := hS _ (List.getElem_mem h)
  have ha := zkl s.effects[k].addr (by have := hx.1; omega)
  have hv := zkl s.effects[k].value (by have := hx.2.1; omega)
  have hc := zkl s.effects[k].cond (by have := hx.2.2; omega)
  have hb : szE s.effects[k] ≤ 1500 := by unfold szE; unfold SmE at hx; omega
  have L := ih (n + szE s.effects[k]) (by omega)
  have e : efF n (s.effects.drop k) = efF (n + szE s.effects[k]) (s.effects.drop (k + 1)) := by rw [List.drop_eq_getElem_cons h]; rfl
  have w1 := zze (a := s.effects[k].addr.sz) (b := s.effects[k].value.sz) (by unfold SmE at hx; omega)
  have w2 := zze (a := s.effects[k].addr.sz + s.effects[k].value.sz) (b := s.effects[k].cond.sz) (by unfold SmE at hx; omega)
  have w3 := zze (a := n) (b := szE s.effects[k]) (by omega)
  have es : s.effects[k].addr.sz + s.effects[k].value.sz + s.effects[k].cond.sz = szE s.effects[k] := rfl
  rw [es] at w2
  rw [e]
  simp only [zaf, zah] at ha hv hc
  simp (maxSteps := 1000000) -implicitDefEqProofs only [↓reduceIte, ↓cond_true, ↓cond_false, sr1, sr2, kA, seval, d25, yacv, n25, e25, dlt_t h, wi_nat (show k < 2 ^ 62 by omega), ei, zad, ix_sl zab h, zbr, ha, hv, hc, w1, w2, w3, L]
theorem yaiq (m : MMach) (hl : m.instrs.length < 1000) (he : ∀ s ∈ m.instrs, s.effects.length < 100) (hS : ∀ s ∈ m.instrs, ∀ x ∈ s.effects, SmE x) : ∀ i, i ≤ m.instrs.length → ∀ n : Nat, n + 150000 * (m.instrs.length - i) ≤ 500000000 → lim (some [3]) 0 (blk 0 (om Tryz.prog ⟨25, none⟩ 0 (.loop (lpb Tryz.f25 0)) ⟨⟨48, [(1, .ptr 0 0), (3, .int .i64 n), (4, .int .i64 i)]⟩, [], zb2 m⟩)) =
  some (.normal, ⟨⟨48, [(3, .int .i64 ((inF n (m.instrs.drop i) : Nat) : Int))]⟩, [], ⟨0, []⟩⟩) := by
 refine zbl (fun n hn => ?_) (fun i h ih n hn => ?_) <;> rw [zac]
 ·simp (maxSteps := 1000000) -implicitDefEqProofs only [↓reduceIte, ↓cond_true, ↓cond_false, sr1, sr2, kA, seval, d25, yacv, n25, e25, List.drop_length, inF, List.foldl_nil]
 ·have hm := List.getElem_mem h
  have hh := he _ hm
  have hb := yakd (n := n) (hS _ hm)
  have L1 := yair m i h (by omega) (hS _ hm) 0 (Nat.zero_le _) n (by omega)
  have L := ih (efF n m.instrs[i].effects) (by omega)
  have e : inF n (m.instrs.drop i) = inF (efF n m.instrs[i].effects) (m.instrs.drop (i + 1)) := by rw [List.drop_eq_getElem_cons h]; rfl
  rw [e]
  simp only [Int.natCast_zero, List.drop_zero] at L1
  simp (maxSteps := 1000000) -implicitDefEqProofs only [↓reduceIte, ↓cond_true, ↓cond_false, sr1, sr2, kA, seval, d25, yacv, n25, e25, dlt_t h, wi_nat (show i < 2 ^ 62 by omega), L1, L]
theorem zzy (m : MMach) (hl : m.instrs.length < 1000) (he : ∀ s ∈ m.instrs, s.effects.length < 100) (hS : ∀ s ∈ m.instrs, ∀ x ∈ s.effects, SmE x) : zas Tryz.prog (om Tryz.prog) 25 [zag m] ⟨0, []⟩ = some (.int .i64 ((inF 0 m.instrs : Nat) : Int), ⟨0, []⟩) := by
 have L := yaiq m hl he hS 0 (Nat.zero_le _) 0 (by omega)
 simp only [Int.natCast_zero, List.drop_zero] at L
 rw [yari _ _ (by simp)]
 simp (maxSteps := 1000000) -implicitDefEqProofs only [↓reduceIte, ↓cond_true, ↓cond_false, sr1, sr2, kA, seval, d25, yacv, n25, e25, zag, zae, L]
def hdB (m : MMach) : Bool := decide (100 < (m.name.size : Int)) || (decide (74 < (m.regs.length : Int)) || (decide (26 < (m.banks.length : Int)) || (decide (18 < (m.units.length : Int)) || decide (74 < (m.instrs.length : Int)))))
def bkB (b : MBank) : Bool := decide (74 < (b.regs.length : Int)) || decide (100 < (b.name.size : Int))
def opB (o : MOpd) : Bool := decide (14 < (o.pieces.length : Int)) || decide (100 < (o.name.size : Int))
def efB (x : MEff) : Bool := ze0 x.addr || (ze0 x.value || ze0 x.cond)
def inB (s : MInstr) : Bool := (decide (14 < (s.operands.length : Int)) || (decide (14 < (s.effects.length : Int)) || decide (100 < (s.name.size : Int)))) || (!s.operands.all (fun o => !opB o) || !s.effects.all (fun x => !efB x))
def ztb (m : MMach) : Bool := hdB m || (!m.banks.all (fun b => !bkB b) || (!m.instrs.all (fun s => !inB s) || decide (1500 < (inF 0 m.instrs : Int))))
theorem yahm (m : MMach) (hR : RawM m) : ∀ i, i ≤ m.banks.length → lim (some [1]) 0 (blk 0 (om Tryz.prog ⟨6, none⟩ 0 (.loop (lpb Tryz.f6 0)) ⟨⟨149, [(1, .ptr 0 0), (3, .int .i64 i)]⟩, [], zb2 m⟩)) = bif (m.banks.drop i).all (fun b => !bkB b) then some (.normal, ⟨⟨149, [(1, .ptr 0 0)]⟩, [], zb2 m⟩) else some (.ret, ⟨⟨149, [(2, .bool true)]⟩, [], ⟨0, []⟩⟩) := by
 have hu := hR.b
 refine zbl ?_ (fun i h ih => ?_) <;> rw [zac]
 ·simp (maxSteps := 1000000) -implicitDefEqProofs only [↓reduceIte, ↓cond_true, ↓cond_false, sr1, sr2, kA, seval, d6, n6, zmj, zmk, zml, e6, List.drop_length]
 ·rw [zcy h]
  cases hb : decide (74 < (m.banks[i].regs.length : Int)) with
  | true => simp (maxSteps := 1000000) -implicitDefEqProofs only [↓reduceIte, ↓cond_true, ↓cond_false, sr1, sr2, kA, seval, d6, n6, zmj, zmk, zml, e6, dlt_t h, ix_sl zab h, zbv, hb, bkB]
  | false =>
   cases hc : decide (100 < (m.banks[i].name.size : Int)) with
   | true => simp (maxSteps := 1000000) -implicitDefEqProofs only [↓reduceIte, ↓cond_true, ↓cond_false, sr1, sr2, kA, seval, d6, n6, zmj, zmk, zml, e6, dlt_t h, ix_sl zab h, zbv, hb, hc, bkB]
   | false => simp (maxSteps := 1000000) -implicitDefEqProofs only [↓reduceIte, ↓cond_true, ↓cond_false, sr1, sr2, kA, seval, d6, n6, zmj, zmk, zml, e6, dlt_t h, wi_nat (show i < 2 ^ 62 by omega), ix_sl zab h, zbv, hb, hc, ih, show bkB m.banks[i] = false by unfold bkB; rw [hb, hc]; rfl]
abbrev ciH0 (m : MMach) (s : MInstr) : Heap := ⟨2, [some (.cells 27 (zae m)), some (.cells 69 (zcq s))]⟩
theorem yaho (m : MMach) (s : MInstr) (hs : s.operands.length < 2 ^ 62) (j : Nat) : ∀ i, i ≤ s.operands.length → lim (some [1, 4, 5]) 0 (blk 4 (om Tryz.prog ⟨6, none⟩ 0 (.loop (lpb Tryz.f6 2)) ⟨⟨149, [(1, .ptr 0 0), (4, .int .i64 j), (5, .ptr 1 0), (6, .int .i64 i)]⟩, [], ciH0 m s⟩)) = bif (s.operands.drop i).all (fun o => !opB o) then some (.normal, ⟨⟨149, [(1, .ptr 0 0), (4, .int .i64 j), (5, .ptr 1 0)]⟩, [], ciH0 m s⟩) else some (.ret, ⟨⟨149, [(2, .bool true)]⟩, [], ⟨0, []⟩⟩) := by
 refine zbl ?_ (fun i h ih => ?_) <;> rw [zac]
 ·simp (maxSteps := 1000000) -implicitDefEqProofs only [↓reduceIte, ↓cond_true, ↓cond_false, sr1, sr2, kA, seval, d6, n6, zmj, zmk, zml, e6, List.drop_length]
 ·rw [zcy h]
  cases hb : decide (14 < (s.operands[i].pieces.length : Int)) with
  | true => simp (maxSteps := 1000000) -implicitDefEqProofs only [↓reduceIte, ↓cond_true, ↓cond_false, sr1, sr2, kA, seval, d6, n6, zmj, zmk, zml, e6, dlt_t h, ix_sl zab h, zaq, hb, opB]
  | false =>
   cases hc : decide (100 < (s.operands[i].name.size : Int)) with
   | true => simp (maxSteps := 1000000) -implicitDefEqProofs only [↓reduceIte, ↓cond_true, ↓cond_false, sr1, sr2, kA, seval, d6, n6, zmj, zmk, zml, e6, dlt_t h, ix_sl zab h, zaq, hb, hc, opB]
   | false => simp (maxSteps := 1000000) -implicitDefEqProofs only [↓reduceIte, ↓cond_true, ↓cond_false, sr1, sr2, kA, seval, d6, n6, zmj, zmk, zml, e6, dlt_t h, wi_nat (show i < 2 ^ 62 by omega), ix_sl zab h, zaq, hb, hc, ih, show opB s.operands[i] = false by unfold opB; rw [hb, hc]; rfl]
theorem yahp (m : MMach) (s : MInstr) (hs : s.effects.length < 2 ^ 62) (hT : ∀ x ∈ s.effects, RawT x.addr ∧ RawT x.value ∧ RawT x.cond) (j : Nat) : ∀ i, i ≤ s.effects.length → lim (some [1, 4]) 0 (blk 6 (om Tryz.prog ⟨6, none⟩ 0 (.loop (lpb Tryz.f6 3)) ⟨⟨149, [(1, .ptr 0 0), (4, .int .i64 j), (5, .ptr 1 0), (7, .int .i64 i)]⟩, [], ciH0 m s⟩)) = bif (s.effects.drop i).all (fun x => !efB x) then some (.normal, ⟨⟨149, [(1, .ptr 0 0), (4, .int .i64 j)]⟩, [], zb2 m⟩) else some (.ret, ⟨⟨149, [(2, .bool true)]⟩, [], ⟨0, []⟩⟩) := by
 refine zbl ?_ (fun i h ih => ?_) <;> rw [zac]
 ·simp (maxSteps := 1000000) -implicitDefEqProofs only [↓reduceIte, ↓cond_true, ↓cond_false, sr1, sr2, kA, seval, d6, n6, zmj, zmk, zml, e6, List.drop_length]
 ·rw [zcy h]
  obtain ⟨r1, r2, r3⟩ := hT _ (List.getElem_mem h)
  have ha := zk0 _ r1
  have hv := zk0 _ r2
  have hc := zk0 _ r3
  simp only [zaf, zah] at ha hv hc
  cases q1 : ze0 s.effects[i].addr with
  | true => simp (maxSteps := 1000000) -implicitDefEqProofs only [↓reduceIte, ↓cond_true, ↓cond_false, sr1, sr2, kA, seval, d6, n6, zmj, zmk, zml, e6, dlt_t h, ix_sl zab h, zbr, ha, q1, efB]
  | false =>
   cases q2 : ze0 s.effects[i].value with
   | true => simp (maxSteps := 1000000) -implicitDefEqProofs only [↓reduceIte, ↓cond_true, ↓cond_false, sr1, sr2, kA, seval, d6, n6, zmj, zmk, zml, e6, dlt_t h, ix_sl zab h, zbr, ha, hv, q1, q2, efB]
   | false =>
    cases q3 : ze0 s.effects[i].cond with
    | true => simp (maxSteps := 1000000) -implicitDefEqProofs only [↓reduceIte, ↓cond_true, ↓cond_false, sr1, sr2, kA, seval, d6, n6, zmj, zmk, zml, e6, dlt_t h, ix_sl zab h, zbr, ha, hv, hc, q1, q2, q3, efB]
    | false => simp (maxSteps := 1000000) -implicitDefEqProofs only [↓reduceIte, ↓cond_true, ↓cond_false, sr1, sr2, kA, seval, d6, n6, zmj, zmk, zml, e6, dlt_t h, wi_nat (show i < 2 ^ 62 by omega), ix_sl zab h, zbr, ha, hv, hc, q1, q2, q3, ih, show efB s.effects[i] = false by unfold efB; rw [q1, q2, q3]; rfl]
theorem yahn (m : MMach) (hR : RawM m) : ∀ i, i ≤ m.instrs.length → lim (some [1]) 0 (blk 2 (om Tryz.prog ⟨6, none⟩ 0 (.loop (lpb Tryz.f6 1)) ⟨⟨149, [(1, .ptr 0 0), (4, .int .i64 i)]⟩, [], zb2 m⟩)) = bif (m.instrs.drop i).all (fun s => !inB s) then some (.normal, ⟨⟨149, [(1, .ptr 0 0)]⟩, [], zb2 m⟩) else some (.ret, ⟨⟨149, [(2, .bool true)]⟩, [], ⟨0, []⟩⟩) := by
 have hu := hR.i
 refine zbl ?_ (fun i h ih => ?_) <;> rw [zac]
 ·simp (maxSteps := 1000000) -implicitDefEqProofs only [↓reduceIte, ↓cond_true, ↓cond_false, sr1, sr2, kA, seval, d6, n6, zmj, zmk, zml, e6, List.drop_length]
 ·rw [zcy h]
  have hm := List.getElem_mem h
  have L2 := yaho m m.instrs[i] (hR.o _ hm) i 0 (Nat.zero_le _)
  have L3 := yahp m m.instrs[i] (hR.e _ hm) (hR.t _ hm) i 0 (Nat.zero_le _)
  have hI : inB m.instrs[i] = ((decide (14 < (m.instrs[i].operands.length : Int)) || (decide (14 < (m.instrs[i].effects.length : Int)) || decide (100 < (m.instrs[i].name.size : Int)))) || (!m.instrs[i].operands.all (fun o => !opB o) || !m.instrs[i].effects.all (fun x => !efB x))) := rfl
  simp only [Int.natCast_zero, List.drop_zero, ciH0] at L2 L3
  rw [hI]
  cases q1 : decide (14 < (m.instrs[i].operands.length : Int)) with
  | true => simp (maxSteps := 1000000) -implicitDefEqProofs only [↓reduceIte, ↓cond_true, ↓cond_false, sr1, sr2, kA, seval, d6, n6, zmj, zmk, zml, e6, dlt_t h, ix_sl zab h, zad, q1]
  | false =>
  cases q2 : decide (14 < (m.instrs[i].effects.length : Int)) with
  | true => simp (maxSteps := 1000000) -implicitDefEqProofs only [↓reduceIte, ↓cond_true, ↓cond_false, sr1, sr2, kA, seval, d6, n6, zmj, zmk, zml, e6, dlt_t h, ix_sl zab h, zad, q1, q2]
  | false =>
  cases q3 : decide (100 < (m.instrs[i].name.size : Int)) with
  | true => simp (maxSteps := 1000000) -implicitDefEqProofs only [↓reduceIte, ↓cond_true, ↓cond_false, sr1, sr2, kA, seval, d6, n6, zmj, zmk, zml, e6, dlt_t h, ix_sl zab h, zad, q1, q2, q3]
  | false =>
  cases q4 : m.instrs[i].operands.all (fun o => !opB o) with
  | false =>
   rw [q4] at L2
   simp (maxSteps := 1000000) -implicitDefEqProofs only [↓reduceIte, ↓cond_true, ↓cond_false, sr1, sr2, kA, seval, d6, n6, zmj, zmk, zml, e6, dlt_t h, ix_sl zab h, zad, q1, q2, q3, L2]
  | true =>
  rw [q4] at L2
  cases q5 : m.instrs[i].effects.all (fun x => !efB x) with
  | false =>
   rw [q5] at L3
   simp (maxSteps := 1000000) -implicitDefEqProofs only [↓reduceIte, ↓cond_true, ↓cond_false, sr1, sr2, kA, seval, d6, n6, zmj, zmk, zml, e6, dlt_t h, ix_sl zab h, zad, q1, q2, q3, L2, L3]
  | true =>
   rw [q5] at L3
   simp (maxSteps := 1000000) -implicitDefEqProofs only [↓reduceIte, ↓cond_true, ↓cond_false, sr1, sr2, kA, seval, d6, n6, zmj, zmk, zml, e6, dlt_t h, wi_nat (show i < 2 ^ 62 by omega), ix_sl zab h, zad, q1, q2, q3, L2, L3, ih]
structure SmM (m : MMach) : Prop where
 n : m.name.size ≤ 100
 r : m.regs.length ≤ 74
 b : m.banks.length ≤ 26
 u : m.units.length ≤ 18
 i : m.instrs.length ≤ 74
 br : ∀ b ∈ m.banks, b.regs.length ≤ 74 ∧ b.name.size ≤ 100
 s : ∀ s ∈ m.instrs, s.operands.length ≤ 14 ∧ s.effects.length ≤ 14 ∧ s.name.size ≤ 100
 o : ∀ s ∈ m.instrs, ∀ o ∈ s.operands, o.pieces.length ≤ 14 ∧ o.name.size ≤ 100
 t : ∀ s ∈ m.instrs, ∀ x ∈ s.effects, ze0 x.addr = false ∧ ze0 x.value = false ∧ ze0 x.cond = false
theorem yavp {m : MMach} (h0 : hdB m = false) (h1 : m.banks.all (fun b => !bkB b) = true) (h2 : m.instrs.all (fun s => !inB s) = true) : SmM m := by
 unfold hdB at h0
 simp only [Bool.or_eq_false_iff, decide_eq_false_iff_not] at h0
 rw [List.all_eq_true] at h1 h2
 have i1 : ∀ s ∈ m.instrs, inB s = false := fun s hs => by simpa using h2 s hs
 have b1 : ∀ b ∈ m.banks, bkB b = false := fun b hb => by simpa using h1 b hb
 refine ⟨by omega, by omega, by omega, by omega, by omega, fun b hb => ?_, fun s hs => ?_, fun s hs o ho => ?_, fun s hs x hx => ?_⟩
 ·have := b1 b hb
  unfold bkB at this
  simp only [Bool.or_eq_false_iff, decide_eq_false_iff_not] at this
  omega
 ·have := i1 s hs
  unfold inB at this
  simp only [Bool.or_eq_false_iff, decide_eq_false_iff_not] at this
  omega
 ·have := i1 s hs
  unfold inB at this
  simp only [Bool.or_eq_false_iff, Bool.not_eq_false', List.all_eq_true] at this
  have := this.2.1 o ho
  unfold opB at this
  simp only [Bool.not_eq_true', Bool.or_eq_false_iff, decide_eq_false_iff_not] at this
  omega
 ·have := i1 s hs
  unfold inB at this
  simp only [Bool.or_eq_false_iff, Bool.not_eq_false', List.all_eq_true] at this
  have := this.2.2 x hx
  unfold efB at this
  simpa using this
theorem zzs (m : MMach) (hR : RawM m) : zas Tryz.prog (om Tryz.prog) 6 [zag m] ⟨0, []⟩ = some (.bool (ztb m), ⟨0, []⟩) := by
 have L0 := yahm m hR 0 (Nat.zero_le _)
 have L1 := yahn m hR 0 (Nat.zero_le _)
 simp only [Int.natCast_zero, List.drop_zero] at L0 L1
 unfold ztb
 have hh : hdB m = (decide (100 < (m.name.size : Int)) || (decide (74 < (m.regs.length : Int)) || (decide (26 < (m.banks.length : Int)) || (decide (18 < (m.units.length : Int)) || decide (74 < (m.instrs.length : Int)))))) := rfl
 rw [yaxy _ _ (by simp)]
 cases h0 : hdB m with
 | true =>
  rw [h0] at hh
  have hh := hh.symm
  simp (maxSteps := 1000000) -implicitDefEqProofs only [↓reduceIte, ↓cond_true, ↓cond_false, sr1, sr2, kA, seval, d6, n6, zmj, zmk, zml, e6, zag, zae, hh, Bool.or_assoc]
 | false =>
  rw [h0] at hh
  have hh := hh.symm
  cases h1 : m.banks.all (fun b => !bkB b) with
  | false =>
   rw [h1] at L0
   simp (maxSteps := 1000000) -implicitDefEqProofs only [↓reduceIte, ↓cond_true, ↓cond_false, sr1, sr2, kA, seval, d6, n6, zmj, zmk, zml, e6, zag, zae, hh, Bool.or_assoc, L0]
  | true =>
   rw [h1] at L0
   cases h2 : m.instrs.all (fun s => !inB s) with
   | false =>
    rw [h2] at L1
    simp (maxSteps := 1000000) -implicitDefEqProofs only [↓reduceIte, ↓cond_true, ↓cond_false, sr1, sr2, kA, seval, d6, n6, zmj, zmk, zml, e6, zag, zae, hh, Bool.or_assoc, L0, L1]
   | true =>
    rw [h2] at L1
    have hs := yavp h0 h1 h2
    have hN := zzy m (by have := hs.i; omega) (fun s q => by have := (hs.s s q).2.1; omega) (fun s q x qx => by
     obtain ⟨t1, t2, t3⟩ := hs.t s q x qx
     exact ⟨(zjw t1).1, (zjw t2).1, (zjw t3).1⟩)
    simp only [zag, zae] at hN
    simp (maxSteps := 1000000) -implicitDefEqProofs only [↓reduceIte, ↓cond_true, ↓cond_false, sr1, sr2, kA, seval, d6, n6, zmj, zmk, zml, e6, zag, zae, hh, Bool.or_assoc, L0, L1, hN]
theorem yac3 {m : MMach} (h : ztb m = false) : SmM m := by
 unfold ztb at h
 simp only [Bool.or_eq_false_iff, Bool.not_eq_false'] at h
 exact yavp h.1 h.2.1 h.2.2.1
structure NumT (t : MTerm) : Prop where
 k : ∀ x ∈ t.nodes, 0 ≤ x.kd
 b : ∀ x ∈ t.nodes, x.bt < 18446744073709551616
structure NumM (m : MMach) : Prop where
 rn : ∀ r ∈ m.regs, r.name.size < 2 ^ 62
 un : ∀ r ∈ m.units, r.name.size < 2 ^ 62
 s : ∀ s ∈ m.instrs, 0 ≤ s.mask ∧ s.mask < 2 ^ 64 ∧ 0 ≤ s.mat ∧ s.mat < 2 ^ 64
 t : ∀ s ∈ m.instrs, ∀ x ∈ s.effects, NumT x.addr ∧ NumT x.value ∧ NumT x.cond
theorem yaew {t : MTerm} (h : ze0 t = false) (hn : NumT t) : POk t := by
 obtain ⟨h1, h2⟩ := zjw h
 exact ⟨⟨by omega, fun x hx => ⟨hn.k x hx, hn.b x hx, by have := h2 x hx; omega⟩⟩, by omega⟩
theorem yauc {m : MMach} (h : SmM m) (hn : NumM m) : NOk8 m := by
 have xk : ∀ s ∈ m.instrs, ∀ x ∈ s.effects, XOk x := fun s hs x hx =>
  ⟨yaew (h.t s hs x hx).1 (hn.t s hs x hx).1, yaew (h.t s hs x hx).2.1 (hn.t s hs x hx).2.1, yaew (h.t s hs x hx).2.2 (hn.t s hs x hx).2.2⟩
 refine ⟨⟨by have := h.r; omega, by have := h.b; omega, by have := h.u; omega, by have := h.i; omega, fun b hb => by have := (h.br b hb).1; omega, fun s hs => by have := (h.s s hs).1; omega, fun s hs => by have := (h.s s hs).2.1; omega, fun s hs o ho => by have := (h.o s hs o ho).1; omega⟩, ⟨hn.rn, fun b hb => by have := (h.br b hb).2; omega, hn.un, fun s hs => by have := (h.s s hs).2.2; omega, fun s hs o ho => by have := (h.o s hs o ho).2; omega⟩, by have := h.n; omega, fun s hs => ?_⟩
 obtain ⟨m0, m1, a0, a1⟩ := hn.s s hs
 refine ⟨⟨by have := (h.s s hs).1; omega, fun o ho => by have := (h.o s hs o ho).1; omega, fun o ho => by have := (h.o s hs o ho).2; omega, by have := (h.s s hs).2.1; omega, fun x hx => ?_⟩, xk s hs, m0, m1, a0, a1⟩
 have k := xk s hs x hx
 exact ⟨k.a.f.t, k.v.f.t, k.c.f.t⟩
theorem yat5 {m : MMach} (h : NOk8 m) : MOk m := ⟨h.b, h.s, h.n, fun s hs => (h.i s hs).i⟩
theorem yaap (L : List Int) (hL : L.length < 2 ^ 62) : ∀ i, i ≤ L.length → lim (some []) 2 (blk 0 (om Tryz.prog ⟨20, none⟩ 2 (.loop (lpb Tryz.f20 0)) ⟨⟨26, [(0, .sl 0 0 L.length 1), (1, .sl 1 0 L.length 1), (5, .int .i64 (i : Nat))]⟩, [], ⟨2, [itB L, itB L]⟩⟩)) = some (.normal, ⟨⟨26, []⟩, [], ⟨2, [itB L, itB L]⟩⟩) := by
 refine zbl ?_ (fun i h ih => ?_) <;> rw [zac]
 ·simp (maxSteps := 1000000) -implicitDefEqProofs only [↓reduceIte, ↓cond_true, ↓cond_false, sr1, sr2, kA, seval, d20, yacu, n20, e20, itB, zaw, za1]
 ·have g := gi h
  have i1 : ∀ b, ixA 1 (.sl b 0 L.length 1) (.int .i64 (i : Int)) = some (.ptr b i) := fun b => by rw [Go.Ab.ix_sl h]; simp
  simp only [itB] at ih
  simp (maxSteps := 1000000) -implicitDefEqProofs only [↓reduceIte, ↓cond_true, ↓cond_false, sr1, sr2, kA, seval, d20, yacu, n20, e20, itB, dlt_t h, wi_nat (show i < 2 ^ 62 by omega), i1, g, zaw, za1, ih]
theorem zuh (L : List Int) (hL : L.length < 2 ^ 62) : zas Tryz.prog (om Tryz.prog) 20 [.sl 0 0 L.length 1, .sl 1 0 L.length 1] ⟨2, [itB L, itB L]⟩ = some (.bool true, ⟨2, [itB L, itB L]⟩) := by
 have K := yaap L hL 0 (Nat.zero_le _)
 simp only [itB, Int.natCast_zero] at K
 rw [yaj3 _ _ (by simp)]
 simp (maxSteps := 1000000) -implicitDefEqProofs only [↓reduceIte, ↓cond_true, ↓cond_false, sr1, sr2, kA, seval, d20, yacu, n20, e20, itB, K, zaw, za1]
theorem zlx : zas Tryz.prog (om Tryz.prog) 20 [.rsl none 0 0 [], .rsl none 0 0 []] ⟨0, []⟩ = some (.bool true, ⟨0, []⟩) := by
 have kz : lim (some []) 0 (blk 0 (om Tryz.prog ⟨20, none⟩ 0 (.loop (lpb Tryz.f20 0)) ⟨⟨26, [(0, .rsl none 0 0 []), (1, .rsl none 0 0 []), (5, .int .i64 0)]⟩, [], ⟨0, []⟩⟩)) = some (.normal, ⟨⟨26, []⟩, [], ⟨0, []⟩⟩) := by
  rw [zac]
  simp (maxSteps := 1000000) -implicitDefEqProofs only [↓reduceIte, ↓cond_true, ↓cond_false, sr1, sr2, kA, seval, d20, yacu, n20, e20]
 rw [yaj3 _ _ (by simp)]
 simp (maxSteps := 1000000) -implicitDefEqProofs only [↓reduceIte, ↓cond_true, ↓cond_false, sr1, sr2, kA, seval, d20, yacu, n20, e20, kz]
theorem zx8 : ∀ {l : List MOp} {S : List Int} {t : Int}, (∀ s ∈ S, okT s = true) → 0 ≤ t → (zpw l S t).length ≤ 4001 * l.length
 | [], _, _, _, _ => by simp [zpw]
 | o :: l, [], _, _, _ => by simp [zpw]
 | o :: l, s :: S, t, h, ht => by
  have hs := h s (by simp)
  simp only [okT, Bool.and_eq_true, decide_eq_true_eq] at hs
  have := zx8 (l := l) (S := S) (t := s) (fun x hx => h x (by simp [hx])) hs.1
  simp only [zpw, List.length_append, List.length_replicate, List.length_cons]
  omega
theorem yaon {m : MMach} {l : List MOp} {S : List Int} (h : letE m l S = 0) : l.length ≤ 64 ∧ ∀ s ∈ S, okT s = true := by
 unfold letE at h
 cases h0 : decide (zb3 m = 0) with
 | false => rw [h0] at h; exact absurd h (of_decide_eq_false h0)
 | true =>
  rw [h0] at h
  cases h1 : decide (64 < (l.length : Int)) with
  | true => rw [h1] at h; simp at h
  | false =>
   rw [h1] at h
   refine ⟨by have := of_decide_eq_false h1; omega, ?_⟩
   cases h2 : decide (zt6 m l = 0) with
   | false => rw [h2] at h; exact absurd h (of_decide_eq_false h2)
   | true =>
    rw [h2] at h
    cases h3 : decide (S.length = l.length) && (zfh S && S.all okT) with
    | false => rw [h3] at h; simp at h
    | true =>
     rw [Bool.and_eq_true, Bool.and_eq_true, List.all_eq_true] at h3
     exact h3.2.2
theorem yafy (m : MMach) (hR : RawM m) (hN : NumM m) (p p2 p3 : Pl) (l : List Int) (o : List MOp) (S : List Int) (hl : l.length < 2 ^ 62) (ho : o.length < 2 ^ 62) (hS : S.length < 2 ^ 62) :
  zas Tryz.prog (om Tryz.prog) 4 [zag m, .rsl (slA p l) p.cap 1 (l.map zat), .rsl (slA p2 o) p2.cap 2 (o.map opV), .rsl (slA p3 S) p3.cap 1 (S.map zat)] ⟨0, []⟩ = some (.bool true, ⟨0, []⟩) := by
 have g1 := zzs m hR
 have g2 := zzt (slA p2 o) p2.cap o zab ho
 simp only [zag, zae] at g1
 rw [yaxx _ _ (by simp)]
 cases h1 : ztb m with
 | true => simp (maxSteps := 1000000) -implicitDefEqProofs only [↓reduceIte, ↓cond_true, ↓cond_false, sr1, sr2, kA, seval, d4, n4, n4_1, zag, zae, g1, h1]
 | false =>
 cases h2 : decide (4200 < (l.length : Int)) with
 | true => simp (maxSteps := 1000000) -implicitDefEqProofs only [↓reduceIte, ↓cond_true, ↓cond_false, sr1, sr2, kA, seval, d4, n4, n4_1, zag, zae, g1, h1, h2]
 | false =>
 cases h3 : yac4 o with
 | true => simp (maxSteps := 1000000) -implicitDefEqProofs only [↓reduceIte, ↓cond_true, ↓cond_false, sr1, sr2, kA, seval, d4, n4, n4_1, zag, zae, g1, h1, h2, g2, h3]
 | false =>
 cases h4 : decide (100 < (S.length : Int)) with
 | true => simp (maxSteps := 1000000) -implicitDefEqProofs only [↓reduceIte, ↓cond_true, ↓cond_false, sr1, sr2, kA, seval, d4, n4, n4_1, zag, zae, g1, h1, h2, g2, h3, h4]
 | false =>
  have hn := yauc (yac3 h1) hN
  have hm := yat5 hn
  have h2' := of_decide_eq_false h2
  have A1 := yagn m hm (slA p l) p.cap l zab hl
  have A2 := yago m hn (slA p l) p.cap l zab hl
  have ea : (decide (accE m l = 0) && !zzl m l) = (decide (accE m l = 0) && accF m l z32) := by
   cases he : decide (accE m l = 0) with
   | false => rfl
   | true =>
    have he' := of_decide_eq_true he
    unfold accE at he'
    cases h0 : decide (zb3 m = 0) with
    | false => rw [h0] at he'; exact absurd he' (of_decide_eq_false h0)
    | true =>
     rw [h0] at he'
     obtain ⟨q1, q2⟩ := zrb he'
     rw [yagp (vm hm.b (of_decide_eq_true h0)) (by omega) q1]
  rw [ea] at A2
  have B1 := zv4 m hm (slA p2 o) (slA p3 S) p2.cap p3.cap o S zab zab ho hS
  have B2 := zue m hn (slA p2 o) (slA p3 S) p2.cap p3.cap o S zab zab ho hS
  unfold letV at B1 B2
  simp only [zag, zae] at A1 A2 B1 B2
  generalize (decide (accE m l = 0) && accF m l z32) = b at A1 A2
  generalize accE m l = e at A1 A2
  have eb : zdi Tryz.prog .eql 4 (.bool b) (.bool b) = some (.bool true) := by cases b <;> kernel_rfl
  have ee : ∀ z : Int, decide (z = z) = true := fun z => decide_eq_true rfl
  cases hE : decide (letE m o S = 0) with
  | false =>
   rw [hE] at B1 B2
   simp (maxSteps := 1000000) -implicitDefEqProofs only [↓reduceIte, ↓cond_true, ↓cond_false, sr1, sr2, kA, seval, d4, n4, n4_1, zag, zae, g1, h1, h2, g2, h3, h4, A1, A2, B1, B2, zlx, eb, ee]
   trace_state
  | true =>
   rw [hE] at B1 B2
   cases hz : decide (o.length = 0) with
   | true =>
    rw [hz] at B1 B2
    simp (maxSteps := 1000000) -implicitDefEqProofs only [↓reduceIte, ↓cond_true, ↓cond_false, sr1, sr2, kA, seval, d4, n4, n4_1, zag, zae, g1, h1, h2, g2, h3, h4, A1, A2, B1, B2, zlx, eb, ee]
   | false =>
    rw [hz] at B1 B2
    have K := zuh (zpw o S 0) (by
     have k := yaon (of_decide_eq_true hE)
     have := zx8 (l := o) k.2 (Int.le_refl 0)
     omega)
    simp only [itB] at K B1 B2
    simp (maxSteps := 1000000) -implicitDefEqProofs only [↓reduceIte, ↓cond_true, ↓cond_false, sr1, sr2, kA, seval, d4, n4, n4_1, zag, zae, g1, h1, h2, g2, h3, h4, A1, A2, B1, B2, K, eb, ee, zaw, za1]
    trace_state
end Go.Proofs.YtibehelnfbcnjaaGreatDoor.v
