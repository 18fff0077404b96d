/- What the law's proof leans on, part 26. Conditions: in each statement. -/
import Derived.Test.YtibehelnfbcnjaaGreatDoorQ6
set_option linter.all false
namespace Go.Proofs.YtibehelnfbcnjaaGreatDoor.v
open Go Go.Ab
set_option maxRecDepth 100000
set_option maxHeartbeats 4000000
set_option linter.unusedSimpArgs false
set_option linter.unusedVariables false
def plcI (s : Int) : List Int → Nat → Int
 | [], _ => -1
 | x :: l, i => bif decide (x = s) then (i : Int) else plcI s l (i + 1)
theorem yaev {s : Int} {l : List Int} {i : Nat} (h : i < l.length) : plcI s (l.drop i) i = bif decide (l[i] = s) then (i : Int) else plcI s (l.drop (i + 1)) (i + 1) := by
 rw [List.drop_eq_getElem_cons h]; rfl
theorem zkd {s : Int} : ∀ {l : List Int} {i : Nat}, decide (plcI s l i < 0) = !zv0 l s
 | [], i => rfl
 | x :: l, i => by
  simp only [plcI, zv0, List.any_cons]
  by_cases e : x = s
  ·simp only [e, decide_true, cond_true, Bool.true_or]; exact decide_eq_false (by omega)
  ·have e' : ¬ s = x := fun q => e q.symm
   simp only [e, e', decide_false, cond_false, Bool.false_or]; exact zkd
abbrev yagw (b : MBank) : Heap := ⟨1, [some (.cells 74 [.str b.name, .rsl (slA b.p b.regs) b.p.cap 1 (b.regs.map zat)])]⟩
theorem yapo (b : MBank) (s : Int) (hl : b.regs.length < 2 ^ 62) : ∀ i, i ≤ b.regs.length → nxt (lim (some []) 0 (blk 0 (om Tryz.prog ⟨97, none⟩ 0 (.loop (lpb Tryz.f97 0)) ⟨⟨21, [(1, .int .i64 s), (2, .ptr 0 0), (5, .int .i64 i)]⟩, [], yagw b⟩))) (Ox Tryz.prog ⟨97, none⟩ 0 (.seq (za7 Tryz.f97 6) .ret)) = some (.ret, ⟨⟨21, [(4, .int .i64 (plcI s (b.regs.drop i) i))]⟩, [], ⟨0, []⟩⟩) := by
 refine zbl ?_ (fun i h ih => ?_) <;> rw [zac]
 ·simp (maxSteps := 1000000) -implicitDefEqProofs only [↓reduceIte, ↓cond_true, ↓cond_false, sr1, sr2, kA, seval, d97, n97, e97, yagw, List.drop_length, plcI]
 ·simp (maxSteps := 1000000) -implicitDefEqProofs only [↓reduceIte, ↓cond_true, ↓cond_false, sr1, sr2, kA, seval, d97, n97, e97, yagw, dlt_t h, wi_nat (show i < 2 ^ 62 by omega), ix_sl zab h, zat, ih, yaev h]
theorem yaes (b : MBank) (s : Int) (hl : b.regs.length < 2 ^ 62) : zas Tryz.prog (om Tryz.prog) 97 [zbv b, .int .i64 s] ⟨0, []⟩ = some (.int .i64 (plcI s b.regs 0), ⟨0, []⟩) := by
 have L := yapo b s hl 0 (Nat.zero_le _)
 simp only [Int.natCast_zero, List.drop_zero, yagw] at L
 rw [yasp _ _ (by simp)]
 simp (maxSteps := 1000000) -implicitDefEqProofs only [↓reduceIte, ↓cond_true, ↓cond_false, sr1, sr2, kA, seval, d97, n97, e97, zbv, L]
abbrev mosH (m : MMach) (o : MOp) (s : MInstr) : Heap := ⟨3, [some (.cells 27 (zae m)), some (.cells 64 (opC o)), some (.cells 69 (zcq s))]⟩
theorem yap7 (m : MMach) (hB : Bd m) (s : MInstr) (hl : s.operands.length < 1000000) (hp : ∀ o ∈ s.operands, o.pieces.length < 1000000) (hF : ∀ i (h : i < s.operands.length), OpF m i s.operands[i]) (o : MOp) (ha : o.args.length = s.operands.length) : ∀ i, i ≤ s.operands.length →
  lim (some []) 0 (blk 0 (om Tryz.prog ⟨72, none⟩ 0 (.loop (lpb Tryz.f72 0)) ⟨⟨85, [(2, .ptr 0 0), (3, .ptr 1 0), (5, .ptr 2 0), (6, .int .i64 i)]⟩, [], mosH m o s⟩)) =
  bif decide (zkm m o.args (s.operands.drop i) (o.args.drop i) = 0) then some (.normal, ⟨⟨85, []⟩, [], ⟨0, []⟩⟩) else some (.ret, ⟨⟨85, [(4, .int .i64 (zkm m o.args (s.operands.drop i) (o.args.drop i)))]⟩, [], ⟨0, []⟩⟩) := by
 refine zbl ?_ (fun i h ih => ?_) <;> rw [zac]
 ·simp (maxSteps := 1000000) -implicitDefEqProofs only [↓reduceIte, ↓cond_true, ↓cond_false, sr1, sr2, kA, seval, d72, zg3, zg4, zg5, n72, zns, e72, List.drop_length, zkm, mosH, zcq]
 ·have h2 : i < o.args.length := by omega
  have hf := hF i h
  have hm := List.getElem_mem h
  rw [zqa h h2]
  generalize zkm m o.args (s.operands.drop (i + 1)) (o.args.drop (i + 1)) = R at ih ⊢
  unfold yaav
  cases k1d : decide (s.operands[i].kind = 1) with
  | false =>
   have hr := zwi m i s.operands[i] (by have := hp _ hm; omega) hf (of_decide_eq_false k1d) o.args[i]
   unfold zaq at hr
   cases hR : zja s.operands[i] o.args[i] with
   | false => simp (maxSteps := 1000000) -implicitDefEqProofs only [↓reduceIte, ↓cond_true, ↓cond_false, sr1, sr2, kA, seval, d72, zg3, zg4, zg5, n72, zns, e72, mosH, zcq, zae, dlt_t h, ix_sl zab h, ix_sl zab h2, zaq, zat, k1d, hr, hR]
   | true => simp (maxSteps := 1000000) -implicitDefEqProofs only [↓reduceIte, ↓cond_true, ↓cond_false, sr1, sr2, kA, seval, d72, zg3, zg4, zg5, n72, zns, e72, mosH, zcq, zae, dlt_t h, wi_nat (show i < 2 ^ 62 by omega), ix_sl zab h, ix_sl zab h2, zaq, zat, k1d, hr, hR, ih]
  | true =>
   obtain ⟨b1, b0, _⟩ := hf.b (of_decide_eq_true k1d)
   have hC := yaes m.banks[s.operands[i].bank.toNat] o.args[i] (by have := hB.br _ (List.getElem_mem b1); omega)
   have e := zsf b1
   have ib := ix_z (f := zbv) (k := .i64) (a := slA m.pb m.banks) (c := m.pb.cap) (sz := 2) zab b0 b1
   unfold zbv at hC
   cases hc : zv0 (zse m s.operands[i].bank) o.args[i] with
   | false =>
    rw [e] at hc
    simp (maxSteps := 1000000) -implicitDefEqProofs only [↓reduceIte, ↓cond_true, ↓cond_false, sr1, sr2, kA, seval, d72, zg3, zg4, zg5, n72, zns, e72, mosH, zcq, zae, dlt_t h, ix_sl zab h, ix_sl zab h2, zaq, zat, k1d, ib, zbv, hC, zkd, hc]
   | true =>
    rw [e] at hc
    rcases hf.z (of_decide_eq_true k1d) with ht | ⟨t0, t1⟩
    ·have t0 : decide (0 ≤ s.operands[i].tied) = false := decide_eq_false (by omega)
     simp (maxSteps := 1000000) -implicitDefEqProofs only [↓reduceIte, ↓cond_true, ↓cond_false, sr1, sr2, kA, seval, d72, zg3, zg4, zg5, n72, zns, e72, mosH, zcq, zae, dlt_t h, wi_nat (show i < 2 ^ 62 by omega), ix_sl zab h, ix_sl zab h2, zaq, zat, k1d, ib, zbv, hC, zkd, hc, t0, ih]
    ·have t2 : s.operands[i].tied.toNat < o.args.length := by omega
     have it := ix_z (f := zat) (k := .i64) (a := slA o.p o.args) (c := o.p.cap) (sz := 1) zab t0 t2
     have td := decide_eq_true t0
     have eg : o.args.getD s.operands[i].tied.toNat 0 = o.args[s.operands[i].tied.toNat] := za2 t2
     rw [eg]
     cases hd : decide (o.args[s.operands[i].tied.toNat] = o.args[i]) with
     | true => simp (maxSteps := 1000000) -implicitDefEqProofs only [↓reduceIte, ↓cond_true, ↓cond_false, sr1, sr2, kA, seval, d72, zg3, zg4, zg5, n72, zns, e72, mosH, zcq, zae, dlt_t h, wi_nat (show i < 2 ^ 62 by omega), ix_sl zab h, ix_sl zab h2, zaq, zat, k1d, ib, zbv, hC, zkd, hc, td, it, hd, ih]
     | false => simp (maxSteps := 1000000) -implicitDefEqProofs only [↓reduceIte, ↓cond_true, ↓cond_false, sr1, sr2, kA, seval, d72, zg3, zg4, zg5, n72, zns, e72, mosH, zcq, zae, dlt_t h, wi_nat (show i < 2 ^ 62 by omega), ix_sl zab h, ix_sl zab h2, zaq, zat, k1d, ib, zbv, hC, zkd, hc, td, it, hd, ih]
theorem yafu (m : MMach) (hB : Bd m) (hv : VM m) (o : MOp) : zas Tryz.prog (om Tryz.prog) 72 [zag m, opV o] ⟨0, []⟩ = some (.int .i64 (zpf m o), ⟨0, []⟩) := by
 have wl : IntKind.i64.wrap ((m.instrs.length : Int) - 1) = (m.instrs.length : Int) - 1 := zam hB.i
 unfold zpf
 rw [yasc _ _ (by simp)]
 cases hI : inR o.instr 0 ((m.instrs.length : Int) - 1) with
 | false => simp (maxSteps := 1000000) -implicitDefEqProofs only [↓reduceIte, ↓cond_true, ↓cond_false, sr1, sr2, kA, seval, d72, zg3, zg4, zg5, n72, zns, e72, zag, zae, opV, wl, zap, hI]
 | true =>
  obtain ⟨z0, z1⟩ := zc4 hI
  obtain ⟨_, hf⟩ := hv.ins hI
  have hs := List.getElem_mem z1
  have ib := ix_z (f := zad) (k := .i64) (a := slA m.pi m.instrs) (c := m.pi.cap) (sz := 9) zab z0 z1
  rw [List.getElem?_eq_getElem z1]
  simp only
  generalize m.instrs[o.instr.toNat] = s at *
  cases hl : decide (o.args.length = s.operands.length) with
  | false =>
   have hl' : decide ((o.args.length : Int) = (s.operands.length : Int)) = false := decide_eq_false (by have := of_decide_eq_false hl; omega)
   simp (maxSteps := 1000000) -implicitDefEqProofs only [↓reduceIte, ↓cond_true, ↓cond_false, sr1, sr2, kA, seval, d72, zg3, zg4, zg5, n72, zns, e72, zag, zae, opV, wl, zap, hI, ib, zad, hl']
  | true =>
   have hl' : decide ((o.args.length : Int) = (s.operands.length : Int)) = true := decide_eq_true (by have := of_decide_eq_true hl; omega)
   have L := yap7 m hB s (hB.o _ hs) (hB.p _ hs) hf.o o (of_decide_eq_true hl) 0 (Nat.zero_le _)
   simp only [Int.natCast_zero, List.drop_zero, mosH, zae, zcq] at L
   cases hS : decide (zkm m o.args s.operands o.args = 0) with
   | false =>
    rw [hS] at L
    simp (maxSteps := 1000000) -implicitDefEqProofs only [↓reduceIte, ↓cond_true, ↓cond_false, sr1, sr2, kA, seval, d72, zg3, zg4, zg5, n72, zns, e72, zag, zae, opV, wl, zap, hI, ib, zad, hl', L]
   | true =>
    rw [hS] at L
    have e0 := of_decide_eq_true hS
    simp (maxSteps := 1000000) -implicitDefEqProofs only [↓reduceIte, ↓cond_true, ↓cond_false, sr1, sr2, kA, seval, d72, zg3, zg4, zg5, n72, zns, e72, zag, zae, opV, wl, zap, hI, ib, zad, hl', L, e0]
def badL (n x : Int) : Bool := decide (x < -1) || decide (n ≤ x)
def zra (l : List Int) (n : Int) : Int := bif decide (4096 < (l.length : Int)) then 4 else bif l.all (fun x => !badL n x) then 0 else 2
theorem yaop (a : Option Addr) (c : Nat) (l : List Int) (ha : okS a (l.map zat) = true) (hl : l.length < 2 ^ 62) (n : Int) : ∀ i, i ≤ l.length → lim (some []) 0 (blk 0 (om Tryz.prog ⟨34, none⟩ 0 (.loop (lpb Tryz.f34 0)) ⟨⟨24, [(1, .int .i64 n), (10, .rsl a c 1 (l.map zat)), (11, .int .i64 l.length), (12, .int .i64 i)]⟩, [], ⟨0, []⟩⟩)) =
  bif (l.drop i).all (fun x => !badL n x) then some (.normal, ⟨⟨24, []⟩, [], ⟨0, []⟩⟩) else some (.ret, ⟨⟨24, [(4, .int .i64 2)]⟩, [], ⟨0, []⟩⟩) := by
 refine zbl ?_ (fun i h ih => ?_) <;> rw [zac]
 ·simp (maxSteps := 1000000) -implicitDefEqProofs only [↓reduceIte, ↓cond_true, ↓cond_false, sr1, sr2, kA, seval, d34, n34, e34, List.drop_length]
 ·rw [zcy h]
  simp (maxSteps := 1000000) -implicitDefEqProofs only [↓reduceIte, ↓cond_true, ↓cond_false, sr1, sr2, kA, seval, d34, n34, e34, dlt_t h, wi_nat (show i < 2 ^ 62 by omega), ix_sl ha h, zat, ih, badL]
theorem yadw (a : Option Addr) (c : Nat) (l : List Int) (ha : okS a (l.map zat) = true) (hl : l.length < 2 ^ 62) (n : Int) : zas Tryz.prog (om Tryz.prog) 34 [.rsl a c 1 (l.map zat), .int .i64 n] ⟨0, []⟩ = some (.int .i64 (zra l n), ⟨0, []⟩) := by
 have K := yaop a c l ha hl n 0 (Nat.zero_le _)
 simp only [Int.natCast_zero, List.drop_zero] at K
 unfold zra
 rw [yarn _ _ (by simp)]
 cases h : decide (4096 < (l.length : Int)) with
 | true => simp (maxSteps := 1000000) -implicitDefEqProofs only [↓reduceIte, ↓cond_true, ↓cond_false, sr1, sr2, kA, seval, d34, n34, e34, h]
 | false => simp (maxSteps := 1000000) -implicitDefEqProofs only [↓reduceIte, ↓cond_true, ↓cond_false, sr1, sr2, kA, seval, d34, n34, e34, h, K]
theorem yaoq (a : Option Addr) (c : Nat) (l : List Int) (ha : okS a (l.map zat) = true) (hl : l.length < 2 ^ 62) (n : Int) : ∀ i, i ≤ l.length → lim (some []) 0 (blk 0 (om Tryz.prog ⟨35, none⟩ 0 (.loop (lpb Tryz.f35 0)) ⟨⟨28, [(0, .rsl a c 1 (l.map zat)), (1, .int .i64 n), (5, .int .i64 i)]⟩, [], ⟨0, []⟩⟩)) =
  bif (l.drop i).all (fun x => !badL n x) then some (.normal, ⟨⟨28, []⟩, [], ⟨0, []⟩⟩) else some (.ret, ⟨⟨28, [(4, .int .i64 2)]⟩, [], ⟨0, []⟩⟩) := by
 refine zbl ?_ (fun i h ih => ?_) <;> rw [zac]
 ·simp (maxSteps := 1000000) -implicitDefEqProofs only [↓reduceIte, ↓cond_true, ↓cond_false, sr1, sr2, kA, seval, d35, n35, e35, List.drop_length]
 ·rw [zcy h]
  simp (maxSteps := 1000000) -implicitDefEqProofs only [↓reduceIte, ↓cond_true, ↓cond_false, sr1, sr2, kA, seval, d35, n35, e35, dlt_t h, wi_nat (show i < 2 ^ 62 by omega), ix_sl ha h, zat, ih, badL]
theorem yadx (a : Option Addr) (c : Nat) (l : List Int) (ha : okS a (l.map zat) = true) (hl : l.length < 2 ^ 62) (n : Int) : zas Tryz.prog (om Tryz.prog) 35 [.rsl a c 1 (l.map zat), .int .i64 n] ⟨0, []⟩ = some (.int .i64 (zra l n), ⟨0, []⟩) := by
 have K := yaoq a c l ha hl n 0 (Nat.zero_le _)
 simp only [Int.natCast_zero, List.drop_zero] at K
 unfold zra
 rw [yaro _ _ (by simp)]
 cases h : decide (4096 < (l.length : Int)) with
 | true => simp (maxSteps := 1000000) -implicitDefEqProofs only [↓reduceIte, ↓cond_true, ↓cond_false, sr1, sr2, kA, seval, d35, n35, e35, h]
 | false => simp (maxSteps := 1000000) -implicitDefEqProofs only [↓reduceIte, ↓cond_true, ↓cond_false, sr1, sr2, kA, seval, d35, n35, e35, h, K]
def yac4 (l : List MOp) : Bool := decide (70 < (l.length : Int)) || l.any (fun o => decide (10 < (o.args.length : Int)))
theorem yahl (a : Option Addr) (c : Nat) (l : List MOp) (ha : okS a (l.map opV) = true) (hl : l.length < 2 ^ 62) : ∀ i, i ≤ l.length → lim (some []) 0 (blk 0 (om Tryz.prog ⟨15, none⟩ 0 (.loop (lpb Tryz.f15 0)) ⟨⟨20, [(0, .rsl a c 2 (l.map opV)), (3, .int .i64 i)]⟩, [], ⟨0, []⟩⟩)) =
  bif (l.drop i).any (fun o => decide (10 < (o.args.length : Int))) then some (.ret, ⟨⟨20, [(2, .bool true)]⟩, [], ⟨0, []⟩⟩) else some (.normal, ⟨⟨20, []⟩, [], ⟨0, []⟩⟩) := by
 refine zbl ?_ (fun i h ih => ?_) <;> rw [zac]
 ·simp (maxSteps := 1000000) -implicitDefEqProofs only [↓reduceIte, ↓cond_true, ↓cond_false, sr1, sr2, kA, seval, d15, n15, e15, List.drop_length, List.any_nil]
 ·rw [yagq h]
  simp (maxSteps := 1000000) -implicitDefEqProofs only [↓reduceIte, ↓cond_true, ↓cond_false, sr1, sr2, kA, seval, d15, n15, e15, dlt_t h, wi_nat (show i < 2 ^ 62 by omega), ix_sl ha h, opV, ih]
theorem zzt (a : Option Addr) (c : Nat) (l : List MOp) (ha : okS a (l.map opV) = true) (hl : l.length < 2 ^ 62) : zas Tryz.prog (om Tryz.prog) 15 [.rsl a c 2 (l.map opV)] ⟨0, []⟩ = some (.bool (yac4 l), ⟨0, []⟩) := by
 have K := yahl a c l ha hl 0 (Nat.zero_le _)
 simp only [Int.natCast_zero, List.drop_zero] at K
 unfold yac4
 rw [yarc _ _ (by simp)]
 cases h : decide (70 < (l.length : Int)) with
 | true => simp (maxSteps := 1000000) -implicitDefEqProofs only [↓reduceIte, ↓cond_true, ↓cond_false, sr1, sr2, kA, seval, d15, n15, e15, h]
 | false => simp (maxSteps := 1000000) -implicitDefEqProofs only [↓reduceIte, ↓cond_true, ↓cond_false, sr1, sr2, kA, seval, d15, n15, e15, h, K]
def zt6 (m : MMach) : List MOp → Int
 | [] => 0
 | o :: l => bif decide (zpf m o = 0) then zt6 m l else zpf m o
theorem zt7 {m : MMach} {l : List MOp} {i : Nat} (h : i < l.length) : zt6 m (l.drop i) = bif decide (zpf m l[i] = 0) then zt6 m (l.drop (i + 1)) else zpf m l[i] := by
 rw [List.drop_eq_getElem_cons h]; rfl
def zvt (m : MMach) (l : List MOp) : Int := bif decide (zb3 m = 0) then (bif decide (64 < (l.length : Int)) then 4 else zt6 m l) else zb3 m
theorem yas7 (m : MMach) (hB : Bd m) (hv : VM m) (a : Option Addr) (c : Nat) (l : List MOp) (ha : okS a (l.map opV) = true) (hl : l.length < 2 ^ 62) : ∀ i, i ≤ l.length → lim (some []) 0 (blk 0 (om Tryz.prog ⟨41, none⟩ 0 (.loop (lpb Tryz.f41 0)) ⟨⟨33, [(1, .rsl a c 2 (l.map opV)), (2, .ptr 0 0), (5, .int .i64 i)]⟩, [], zb2 m⟩)) =
  bif decide (zt6 m (l.drop i) = 0) then some (.normal, ⟨⟨33, []⟩, [], ⟨0, []⟩⟩) else some (.ret, ⟨⟨33, [(4, .int .i64 (zt6 m (l.drop i)))]⟩, [], ⟨0, []⟩⟩) := by
 refine zbl ?_ (fun i h ih => ?_) <;> rw [zac]
 ·simp (maxSteps := 1000000) -implicitDefEqProofs only [↓reduceIte, ↓cond_true, ↓cond_false, sr1, sr2, kA, seval, d41, zvw, zvx, n41, e41, zb2, List.drop_length, zt6]
 ·have hS := yafu m hB hv l[i]
  simp only [zag, zae, opV] at hS
  rw [zt7 h]
  cases h0 : decide (zpf m l[i] = 0) with
  | true => simp (maxSteps := 1000000) -implicitDefEqProofs only [↓reduceIte, ↓cond_true, ↓cond_false, sr1, sr2, kA, seval, d41, zvw, zvx, n41, e41, zb2, zae, dlt_t h, wi_nat (show i < 2 ^ 62 by omega), ix_sl ha h, opV, hS, h0, ih]
  | false => simp (maxSteps := 1000000) -implicitDefEqProofs only [↓reduceIte, ↓cond_true, ↓cond_false, sr1, sr2, kA, seval, d41, zvw, zvx, n41, e41, zb2, zae, dlt_t h, wi_nat (show i < 2 ^ 62 by omega), ix_sl ha h, opV, hS, h0]
theorem yahc (m : MMach) (hm : NOk8 m) (a : Option Addr) (c : Nat) (l : List MOp) (ha : okS a (l.map opV) = true) (hl : l.length < 2 ^ 62) : zas Tryz.prog (om Tryz.prog) 41 [zag m, .rsl a c 2 (l.map opV)] ⟨0, []⟩ = some (.int .i64 (zvt m l), ⟨0, []⟩) := by
 have hC := zkh m hm
 rw [yad1 m hm] at hC
 simp only [zag, zae] at hC
 unfold zvt
 rw [yars _ _ (by simp)]
 cases h0 : decide (zb3 m = 0) with
 | false => simp (maxSteps := 1000000) -implicitDefEqProofs only [↓reduceIte, ↓cond_true, ↓cond_false, sr1, sr2, kA, seval, d41, zvw, zvx, n41, e41, zag, zae, hC, h0]
 | true =>
  have hv := vm hm.b (of_decide_eq_true h0)
  cases h1 : decide (64 < (l.length : Int)) with
  | true => simp (maxSteps := 1000000) -implicitDefEqProofs only [↓reduceIte, ↓cond_true, ↓cond_false, sr1, sr2, kA, seval, d41, zvw, zvx, n41, e41, zag, zae, hC, h0, h1]
  | false =>
   have K := yas7 m hm.b hv a c l ha hl 0 (Nat.zero_le _)
   simp only [Int.natCast_zero, List.drop_zero, zb2, zae] at K
   cases h2 : decide (zt6 m l = 0) with
   | true =>
    rw [h2] at K
    simp (maxSteps := 1000000) -implicitDefEqProofs only [↓reduceIte, ↓cond_true, ↓cond_false, sr1, sr2, kA, seval, d41, zvw, zvx, n41, e41, zag, zae, hC, h0, h1, K, of_decide_eq_true h2]
   | false =>
    rw [h2] at K
    simp (maxSteps := 1000000) -implicitDefEqProofs only [↓reduceIte, ↓cond_true, ↓cond_false, sr1, sr2, kA, seval, d41, zvw, zvx, n41, e41, zag, zae, hC, h0, h1, K]
def i8V (n : Int) : AV := .int .i8 n
theorem u_un : Tryz.prog.underlying 89 = some (.array 8 87) := by kernel_rfl
theorem u_4 : Tryz.prog.underlying 87 = some (.array 4 86) := by kernel_rfl
theorem s_4 : za0 Tryz.prog 87 = some 4 := by kernel_rfl
theorem s_8 : za0 Tryz.prog 86 = some 1 := by kernel_rfl
def z32 : List Int := List.replicate 32 0
theorem zuv : [AV.int .i8 0, .int .i8 0, .int .i8 0, .int .i8 0, .int .i8 0, .int .i8 0, .int .i8 0, .int .i8 0, .int .i8 0, .int .i8 0, .int .i8 0, .int .i8 0, .int .i8 0, .int .i8 0, .int .i8 0, .int .i8 0, .int .i8 0, .int .i8 0, .int .i8 0, .int .i8 0, .int .i8 0, .int .i8 0, .int .i8 0, .int .i8 0, .int .i8 0, .int .i8 0, .int .i8 0, .int .i8 0, .int .i8 0, .int .i8 0, .int .i8 0, .int .i8 0] = z32.map i8V := rfl
theorem zbp {l : List Int} : AV.refsL (l.map i8V) = [] := refsL_map fun _ => rfl
theorem zcd {l : List Int} {ρ : Nat → Nat} : AV.renL ρ (l.map i8V) = l.map i8V := renL_map fun _ => rfl
theorem zh3 {l : List Int} : zbo (l.map i8V) = true := leafs_map fun _ => rfl
theorem zu3 {p : Nat → Bool} {l : List Int} : AV.allL p (l.map i8V) = true := zqh fun _ => rfl
def zr8 (x : Int) : Int := bif decide (0 < IntKind.i8.wrap (x - 1)) then IntKind.i8.wrap (x - 1) else 0
def nx (U : List Int) (n : Nat) : List Int := (U.take n).map zr8 ++ U.drop n
theorem yaue {U : List Int} {n : Nat} : (nx U n).length = U.length := by simp [nx]; omega
theorem yazk {U : List Int} {n : Nat} (h : n < U.length) : (nx U n)[n]? = some U[n] := by
 unfold nx
 rw [List.getElem?_append_right (by simp; omega), List.length_map, List.length_take, Nat.min_eq_left (by omega), Nat.sub_self, List.getElem?_drop]
 simp [h]
theorem yauf {U : List Int} {n : Nat} (h : n < U.length) : (nx U n).set n (zr8 U[n]) = nx U (n + 1) := by
 unfold nx
 have e : (U.drop n).set 0 (zr8 U[n]) = zr8 U[n] :: U.drop (n + 1) := by rw [List.drop_eq_getElem_cons h]; rfl
 rw [List.set_append_right _ _ (by simp; omega), List.length_map, List.length_take, Nat.min_eq_left (by omega), Nat.sub_self, e, List.take_succ_eq_append_getElem h, List.map_append, List.append_assoc]
 rfl
abbrev uH (A B : List Int) : Heap := ⟨2, [some (.cells 89 (A.map i8V)), some (.cells 89 (B.map i8V))]⟩
theorem yapb (U B : List Int) (hU : U.length = 32) (i : Nat) (hi : i < 8) : ∀ k : Nat, k ≤ 4 → lim (some [1, 2, 5]) 0 (blk 2 (om Tryz.prog ⟨28, none⟩ 0 (.loop (lpb Tryz.f28 1)) ⟨⟨25, [(1, .ptr 0 0), (2, .ptr 1 0), (3, .int .i64 i), (5, .int .i64 i), (8, .int .i64 k)]⟩, [], uH (nx U (i * 4 + k)) B⟩)) = some (.normal, ⟨⟨25, [(1, .ptr 0 0), (2, .ptr 1 0), (5, .int .i64 i)]⟩, [], uH (nx U (i * 4 + 4)) B⟩) := by
 refine zbl ?_ (fun k h ih => ?_) <;> rw [zac]
 ·simp (maxSteps := 1000000) -implicitDefEqProofs only [↓reduceIte, ↓cond_true, ↓cond_false, sr1, sr2, kA, seval, d28, yaez, yacw, n28, e28, uH, zbp, zcd]
 ·have hk : i * 4 + k < U.length := by omega
  have d1 : decide ((k : Int) < 4) = true := decide_eq_true (by omega)
  have i1 := fun o => ia_p (P := Tryz.prog) (b := 0) (o := o) (k := .i64) (i := (i : Int)) u_un s_4 (by simp; omega)
  have i2 := fun o => ia_p (P := Tryz.prog) (b := 0) (o := o) (k := .i64) (i := (k : Int)) u_4 s_8 (by simp; omega)
  have g := yazk hk
  have e : ((nx U (i * 4 + k)).map i8V)[i * 4 + k]? = some (i8V U[i * 4 + k]) := by rw [List.getElem?_map, g]; rfl
  have hs : ((nx U (i * 4 + k)).map i8V).set (i * 4 + k) (i8V (zr8 U[i * 4 + k])) = (nx U (i * 4 + (k + 1))).map i8V := by
   rw [← List.map_set, yauf hk]; rfl
  simp only [i8V] at e hs
  have ed : (bif decide (0 < IntKind.i8.wrap (U[i * 4 + k] - 1)) then IntKind.i8.wrap (U[i * 4 + k] - 1) else 0) = zr8 U[i * 4 + k] := rfl
  have h5 : i * 4 + k + 1 ≤ 32 := by omega
  simp (maxSteps := 1000000) -implicitDefEqProofs only [↓reduceIte, ↓cond_true, ↓cond_false, sr1, sr2, kA, seval, d28, yaez, yacw, n28, e28, uH, d1, wi_nat (show k < 2 ^ 62 by omega), i1, i2, Int.toNat_natCast, e, ed, hs, List.length_map, yaue, hU, h5, sr_cons, sr_nil, zbp, zcd, ih]
theorem yapa (U B : List Int) (hU : U.length = 32) : ∀ i : Nat, i ≤ 8 → lim (some [1, 2]) 0 (blk 0 (om Tryz.prog ⟨28, none⟩ 0 (.loop (lpb Tryz.f28 0)) ⟨⟨25, [(1, .ptr 0 0), (2, .ptr 1 0), (5, .int .i64 i)]⟩, [], uH (nx U (i * 4)) B⟩)) = some (.normal, ⟨⟨25, [(1, .ptr 0 0), (2, .ptr 1 0)]⟩, [], uH (nx U 32) B⟩) := by
 refine zbl ?_ (fun i h ih => ?_) <;> rw [zac]
 ·simp (maxSteps := 1000000) -implicitDefEqProofs only [↓reduceIte, ↓cond_true, ↓cond_false, sr1, sr2, kA, seval, d28, yaez, yacw, n28, e28, uH, zbp, zcd]
 ·have d1 : decide ((i : Int) < 8) = true := decide_eq_true (by omega)
  have L := yapb U B hU i h 0 (Nat.zero_le _)
  have e : (i + 1) * 4 = i * 4 + 4 := by omega
  simp only [uH, Int.natCast_zero, Nat.add_zero] at L
  rw [e] at ih
  simp only [uH] at ih
  simp (maxSteps := 1000000) -implicitDefEqProofs only [↓reduceIte, ↓cond_true, ↓cond_false, sr1, sr2, kA, seval, d28, yaez, yacw, n28, e28, uH, d1, wi_nat (show i < 2 ^ 62 by omega), zbp, zcd, L, ih]
theorem yavq : ∀ (vs c : List AV) (o : Nat), o + vs.length ≤ c.length → zbd c o vs = c.take o ++ vs ++ c.drop (o + vs.length)
 | [], c, o, _ => by simp [zbd]
 | v :: vs, c, o, h => by
  simp only [List.length_cons] at h
  simp only [zbd]
  rw [yavq vs (c.set o v) (o + 1) (by simp; omega)]
  have h1 : (c.set o v).take (o + 1) = c.take o ++ [v] := by
   rw [List.take_set, List.set_eq_take_append_cons_drop]
   simp only [List.length_take]
   rw [if_pos (by omega)]
   simp [List.take_take]
  have h2 : (c.set o v).drop (o + 1 + vs.length) = c.drop (o + (vs.length + 1)) := by
   rw [List.drop_set_of_lt (by omega)]
   congr 1
   omega
  rw [h1, h2]
  simp
theorem zp9 {A B : List Int} (h : A.length = B.length) : zbd (A.map i8V) 0 (B.map i8V) = B.map i8V := by
 rw [yavq _ _ _ (by simp [h])]; simp [h]
theorem zw2 : z32.length = 32 := rfl
theorem yaud {U : List Int} (h : U.length = 32) : nx U 32 = U.map zr8 := by
 unfold nx; rw [← h, List.take_length, List.drop_length, List.append_nil]
theorem yaio (U : List Int) (hU : U.length = 32) : zas Tryz.prog (om Tryz.prog) 28 [.agg (U.map i8V)] ⟨0, []⟩ = some (.agg ((U.map zr8).map i8V), ⟨0, []⟩) := by
 have L := yapa U z32 hU 0 (Nat.zero_le _)
 have e0 : nx U (0 * 4) = U := rfl
 rw [e0, yaud hU] at L
 simp only [uH, Int.natCast_zero] at L
 have tk : ∀ l : List Int, l.length = 32 → List.take 32 (l.map i8V) = l.map i8V := fun l hl => List.take_of_length_le (by simp [hl])
 have h2 : (U.map zr8).length = 32 := by simp [hU]
 rw [yark _ _ (by simp)]
 have h3 := zp9 (A := z32) (B := U.map zr8) (by rw [h2]; rfl)
 simp (maxSteps := 1000000) -implicitDefEqProofs only [↓reduceIte, ↓cond_true, ↓cond_false, sr1, sr2, kA, seval, d28, yaez, yacw, n28, e28, zuv, zw2, zh3, zbp, zcd, L, h3, List.length_map, hU, tk _ hU, tk _ h2]
def sw (U : List Int) (i j : Nat) : List Int := (U.set i (U.getD j 0)).set j (U.getD i 0)
def bub (o : Nat) : Nat → List Int → List Int
 | 0, U => U
 | k + 1, U => bif decide (U.getD (o + k) 0 < U.getD (o + (k + 1)) 0) then bub o k (sw U (o + (k + 1)) (o + k)) else U
def zoj (U : List Int) (o c : Nat) (b : Int) : Option (List Int) := bif decide (U.getD (o + (c - 1)) 0 = 0) then some (bub o (c - 1) (U.set (o + (c - 1)) b)) else none
theorem yal4 {U : List Int} {i j : Nat} : (sw U i j).length = U.length := by simp [sw]
theorem zqo {o : Nat} : ∀ {k : Nat} {U : List Int}, (bub o k U).length = U.length
 | 0, U => rfl
 | k + 1, U => by
  rw [bub]
  cases decide (U.getD (o + k) 0 < U.getD (o + (k + 1)) 0) with
  | false => rfl
  | true => simp only [cond_true]; rw [zqo, yal4]
theorem yamk {U : List Int} {j : Nat} (h : j < U.length) : (U.map i8V)[j]? = some (.int .i8 (U.getD j 0)) := by
 rw [List.getElem?_map, List.getElem?_eq_getElem h]; simp [h, i8V]
theorem yaly {U : List Int} {j : Nat} {x : Int} : (U.map i8V).set j (.int .i8 x) = (U.set j x).map i8V := by rw [List.map_set]; rfl
theorem yap4 (B : List Int) (hB : B.length = 32) (o c : Nat) (hc : o + c ≤ 32) (c4 : c ≤ 4) : ∀ k, k < c → ∀ U : List Int, U.length = 32 → lim (some [3, 6]) 0 (blk 0 (om Tryz.prog ⟨29, none⟩ 0 (.loop (lpb Tryz.f29 0)) ⟨⟨71, [(3, .ptr 0 0), (6, .ptr 1 0), (8, .asl 0 o c 4 1), (10, .int .i64 k)]⟩, [], uH U B⟩)) = some (.normal, ⟨⟨71, [(3, .ptr 0 0), (6, .ptr 1 0)]⟩, [], uH (bub o k U) B⟩) := by
 intro k
 induction k with
 | zero =>
  intro hk U hU
  rw [zac]
  simp (maxSteps := 1000000) -implicitDefEqProofs only [↓reduceIte, ↓cond_true, ↓cond_false, sr1, sr2, kA, seval, d29, yae0, yacx, yacy, yacz, n29, e29, uH, zbp, zcd, bub]
 | succ k ih =>
  intro hk U hU
  have d1 : decide (0 < ((k + 1 : Nat) : Int)) = true := decide_eq_true (by omega)
  have w1 : IntKind.i64.wrap (((k + 1 : Nat) : Int) - 1) = (k : Int) := by rw [zdr (by omega) (by omega)]; omega
  have i1 : ixA 1 (.asl 0 o c 4 1) (.int .i64 ((k + 1 : Nat) : Int)) = some (.ptr 0 (o + (k + 1))) := by rw [yadk (by omega) (by omega)]; simp
  have i2 : ixA 1 (.asl 0 o c 4 1) (.int .i64 (k : Int)) = some (.ptr 0 (o + k)) := by rw [yadk (by omega) (by omega)]; simp
  have e1 := yamk (U := U) (j := o + (k + 1)) (by omega)
  have e2 := yamk (U := U) (j := o + k) (by omega)
  have L := ih (by omega) (sw U (o + (k + 1)) (o + k)) (by rw [yal4, hU])
  have h5 : o + (k + 1) + 1 ≤ 32 := by omega
  have h6 : o + k + 1 ≤ 32 := by omega
  have esw : ((U.set (o + (k + 1)) (U.getD (o + k) 0)).set (o + k) (U.getD (o + (k + 1)) 0)) = sw U (o + (k + 1)) (o + k) := rfl
  rw [bub, zac]
  simp only [uH] at L
  cases hd : decide (U.getD (o + k) 0 < U.getD (o + (k + 1)) 0) with
  | false => simp (maxSteps := 1000000) -implicitDefEqProofs only [↓reduceIte, ↓cond_true, ↓cond_false, sr1, sr2, kA, seval, d29, yae0, yacx, yacy, yacz, n29, e29, uH, d1, w1, i1, i2, e1, e2, hd, zbp, zcd]
  | true => simp (maxSteps := 1000000) -implicitDefEqProofs only [↓reduceIte, ↓cond_true, ↓cond_false, sr1, sr2, kA, seval, d29, yae0, yacx, yacy, yacz, n29, e29, uH, d1, w1, i1, i2, e1, e2, hd, zbp, zcd, List.length_map, List.length_set, hU, h5, h6, sr_cons, sr_nil, yaly, esw, zu3, L]
theorem wi8 {x : Int} (h0 : -128 ≤ x) (h1 : x < 128) : IntKind.i8.wrap x = x := by
 simp [IntKind.wrap, IntKind.bits, IntKind.signed]; omega
def zun (U : List Int) (r : Option (List Int)) : AV := match r with | some V => .tup [.agg (V.map i8V), .bool true] | none => .tup [.agg (U.map i8V), .bool false]
def zaj (m : MMach) (u : Int) : Nat := match m.units[u.toNat]? with | some x => x.count.toNat | none => 0
theorem yafr (m : MMach) (hv : VM m) (s : MInstr) (hs : InF m s) (U : List Int) (hU : U.length = 32) : zas Tryz.prog (om Tryz.prog) 29 [.agg (U.map i8V), zag m, zad s] ⟨0, []⟩ = some (zun U (zoj U (s.unit.toNat * 4) (zaj m s.unit) s.busy), ⟨0, []⟩) := by
 obtain ⟨u0, u1⟩ := hs.u
 have hu := hv.c _ (List.getElem_mem u1)
 have hu8 := hv.u
 have ib := ix_z (f := unV) (k := .i64) (a := slA m.pu m.units) (c := m.pu.cap) (sz := 2) zab u0 u1
 have ec : zaj m s.unit = m.units[s.unit.toNat].count.toNat := by unfold zaj; rw [List.getElem?_eq_getElem u1]
 rw [ec]
 generalize m.units[s.unit.toNat] = y at *
 obtain ⟨c, hc⟩ : ∃ c : Nat, y.count = (c : Int) := ⟨y.count.toNat, by omega⟩
 have c1 : 1 ≤ c ∧ c ≤ 4 := by omega
 have i1 := ia_p (P := Tryz.prog) (b := 0) (o := 0) (k := .i64) (i := s.unit) u_un s_4 (by simp; omega)
 have i2 : ∀ H o, zda Tryz.prog H 87 (.ptr 0 o) none (some (.int .i64 (c : Int))) = some (.asl 0 o c 4 1) := fun H o => by
  rw [yaz0 u_4 s_8 (by omega) (by omega) (by omega)]; simp
 have w1 : IntKind.i64.wrap ((c : Int) - 1) = ((c - 1 : Nat) : Int) := by rw [zdr (by omega) (by omega)]; omega
 have i3 : ixA 1 (.asl 0 (s.unit.toNat * 4) c 4 1) (.int .i64 ((c - 1 : Nat) : Int)) = some (.ptr 0 (s.unit.toNat * 4 + (c - 1))) := by rw [yadk (by omega) (by omega)]; simp
 have e1 := yamk (U := U) (j := s.unit.toNat * 4 + (c - 1)) (by omega)
 have hb := wi8 (x := s.busy) (by have := hs.b; omega) (by have := hs.b; omega)
 have ht : y.count.toNat = c := by omega
 have tk : ∀ l : List Int, l.length = 32 → List.take 32 (l.map i8V) = l.map i8V := fun l hl => List.take_of_length_le (by simp [hl])
 have L := yap4 z32 rfl (s.unit.toNat * 4) c (by omega) (by omega) (c - 1) (by omega) (U.set (s.unit.toNat * 4 + (c - 1)) s.busy) (by simp [hU])
 have hV : (bub (s.unit.toNat * 4) (c - 1) (U.set (s.unit.toNat * 4 + (c - 1)) s.busy)).length = 32 := by rw [zqo]; simp [hU]
 simp only [uH] at L
 have s1 := zp9 (A := z32) (B := U) (by rw [hU]; rfl)
 have s2 := zp9 (A := z32) (B := bub (s.unit.toNat * 4) (c - 1) (U.set (s.unit.toNat * 4 + (c - 1)) s.busy)) (by rw [hV]; rfl)
 have h7 : s.unit.toNat * 4 + (c - 1) + 1 ≤ 32 := by omega
 rw [ht]
 unfold zoj
 rw [yarl _ _ (by simp)]
 cases h0 : decide (U.getD (s.unit.toNat * 4 + (c - 1)) 0 = 0) with
 | false => simp (maxSteps := 1000000) -implicitDefEqProofs only [↓reduceIte, ↓cond_true, ↓cond_false, sr1, sr2, kA, seval, d29, yae0, yacx, yacy, yacz, n29, e29, zag, zae, zad, zuv, zh3, zbp, zcd, List.length_map, List.length_set, zw2, s1, s2, hU, ib, unV, hc, i1, i2, w1, i3, e1, h0, tk _ hU, zun]
 | true => simp (maxSteps := 1000000) -implicitDefEqProofs only [↓reduceIte, ↓cond_true, ↓cond_false, sr1, sr2, kA, seval, d29, yae0, yacx, yacy, yacz, n29, e29, zag, zae, zad, zuv, zh3, zbp, zcd, List.length_map, List.length_set, zw2, s1, s2, hU, ib, unV, hc, i1, i2, w1, i3, e1, h0, hb, h7, sr_cons, sr_nil, yaly, L, hV, tk _ hU, tk _ hV, zun]
end Go.Proofs.YtibehelnfbcnjaaGreatDoor.v
namespace Go.Proofs.YtibehelnfbcnjaaGreatDoor.v
open Go Go.Ab
set_option maxRecDepth 100000
set_option maxHeartbeats 4000000
set_option linter.unusedSimpArgs false
set_option linter.unusedVariables false
def accF (m : MMach) : List Int → List Int → Bool
 | [], _ => true
 | x :: l, U => bif decide (x < 0) then accF m l (U.map zr8) else match m.instrs[x.toNat]? with
  | some s => (match zoj U (s.unit.toNat * 4) (zaj m s.unit) s.busy with | some V => accF m l V | none => false)
  | none => false
theorem yaau {U V : List Int} {o c : Nat} {b : Int} (h : zoj U o c b = some V) : V.length = U.length := by
 unfold zoj at h
 cases hd : decide (U.getD (o + (c - 1)) 0 = 0) with
 | false => rw [hd] at h; cases h
 | true => rw [hd] at h; injection h with h; rw [← h, zqo, List.length_set]
abbrev muH (m : MMach) (U : List Int) : Heap := ⟨2, [some (.cells 27 (zae m)), some (.cells 89 (U.map i8V))]⟩
theorem yaxs (m : MMach) (hB : Bd m) (hv : VM m) (a : Option Addr) (c : Nat) (l : List Int) (ha : okS a (l.map zat) = true) (hl : l.length < 2 ^ 62) (hL : ∀ x ∈ l, -1 ≤ x ∧ x < (m.instrs.length : Int)) : ∀ i, i ≤ l.length → ∀ U : List Int, U.length = 32 →
  lim (some []) 0 (blk 0 (om Tryz.prog ⟨16, none⟩ 0 (.loop (lpb Tryz.f16 0)) ⟨⟨47, [(2, .ptr 0 0), (7, .ptr 1 0), (23, .rsl a c 1 (l.map zat)), (24, .int .i64 l.length), (25, .int .i64 i)]⟩, [], muH m U⟩)) =
  bif accF m (l.drop i) U then some (.normal, ⟨⟨47, []⟩, [], ⟨0, []⟩⟩) else some (.ret, ⟨⟨47, [(4, .bool false), (5, .int .i64 0)]⟩, [], ⟨0, []⟩⟩) := by
 refine zbl (fun U hU => ?_) (fun i h ih U hU => ?_) <;> rw [zac]
 ·simp (maxSteps := 1000000) -implicitDefEqProofs only [↓reduceIte, ↓cond_true, ↓cond_false, sr1, sr2, kA, seval, d16, zll, n16, zts, e16, muH, zae, List.drop_length, accF, zbp, zcd]
 ·have hx := hL l[i] (List.getElem_mem h)
  have tk : ∀ l : List Int, l.length = 32 → List.take 32 (l.map i8V) = l.map i8V := fun l hl => List.take_of_length_le (by simp [hl])
  rw [List.drop_eq_getElem_cons h, accF]
  cases hn : decide (l[i] < 0) with
  | true =>
   have hN := yaio U hU
   have L := ih (U.map zr8) (by simp [hU])
   have s1 := zp9 (A := U) (B := U.map zr8) (by simp)
   simp only [muH] at L
   simp (maxSteps := 1000000) -implicitDefEqProofs only [↓reduceIte, ↓cond_true, ↓cond_false, sr1, sr2, kA, seval, d16, zll, n16, zts, e16, muH, zae, dlt_t h, wi_nat (show i < 2 ^ 62 by omega), ix_sl ha h, zat, hn, hN, s1, List.length_map, hU, tk _ hU, zh3, zbp, zcd, L]
  | false =>
   have hn' := of_decide_eq_false hn
   have z1 : l[i].toNat < m.instrs.length := by omega
   have ib := ix_z (f := zad) (k := .i64) (a := slA m.pi m.instrs) (c := m.pi.cap) (sz := 9) zab (show 0 ≤ l[i] by omega) z1
   have hs := hv.s _ (List.getElem_mem z1)
   have hS := yafr m hv m.instrs[l[i].toNat] hs U hU
   rw [List.getElem?_eq_getElem z1]
   simp only [zag, zae, zad] at hS
   simp only
   generalize m.instrs[l[i].toNat] = s at *
   cases hF : zoj U (s.unit.toNat * 4) (zaj m s.unit) s.busy with
   | none =>
    rw [hF] at hS
    simp only [zun] at hS
    simp (maxSteps := 1000000) -implicitDefEqProofs only [↓reduceIte, ↓cond_true, ↓cond_false, sr1, sr2, kA, seval, d16, zll, n16, zts, e16, muH, zae, dlt_t h, wi_nat (show i < 2 ^ 62 by omega), ix_sl ha h, zat, hn, ib, zad, hS, zp9 (A := U) (B := U) rfl, zu3, List.length_map, hU, tk _ hU, zh3, zbp, zcd]
    | some V =>
    have hV := yaau hF
    rw [hU] at hV
    have L := ih V hV
    rw [hF] at hS
    simp only [zun] at hS
    simp only [muH] at L
    simp (maxSteps := 1000000) -implicitDefEqProofs only [↓reduceIte, ↓cond_true, ↓cond_false, sr1, sr2, kA, seval, d16, zll, n16, zts, e16, muH, zae, dlt_t h, wi_nat (show i < 2 ^ 62 by omega), ix_sl ha h, zat, hn, ib, zad, hS, zp9 (A := U) (B := V) (by rw [hU, hV]), zu3, List.length_map, hU, hV, tk _ hU, zh3, zbp, zcd, L]
 end Go.Proofs.YtibehelnfbcnjaaGreatDoor.v
namespace Go.Proofs.YtibehelnfbcnjaaGreatDoor.v
open Go Go.Ab
set_option maxRecDepth 100000
set_option maxHeartbeats 4000000
set_option linter.unusedSimpArgs false
set_option linter.unusedVariables false
def evF : List Int → Int → List (Int × Int)
 | [], _ => []
 | x :: l, c => bif decide (x = -1) then evF l (c + 1) else (c, x) :: evF l c
theorem zvs : ∀ {l : List Int} {c : Int}, (evF l c).length ≤ l.length
 | [], _ => Nat.le_refl _
 | x :: l, c => by
  rw [evF]
  cases decide (x = -1) with
  | true => have := zvs (l := l) (c := c + 1); simp; omega
  | false => have := zvs (l := l) (c := c); simp; omega
theorem zaw {l : List Int} : AV.refsL (l.map zat) = [] := refsL_map fun _ => rfl
theorem za1 {l : List Int} {ρ : Nat → Nat} : AV.renL ρ (l.map zat) = l.map zat := renL_map fun _ => rfl
theorem zd4 {l : List Int} : zbo (l.map zat) = true := leafs_map fun _ => rfl
theorem yaxt {p : Nat → Bool} {l : List Int} : AV.allL p (l.map zat) = true := zqh fun _ => rfl
abbrev itB (l : List Int) : Option Blk := some (.cells 3 (l.map zat))
abbrev mB (m : MMach) : Option Blk := some (.cells 27 (zae m))
theorem yan0 (m : MMach) (a : Option Addr) (c : Nat) (l : List Int) (ha : okS a (l.map zat) = true) (hl : l.length < 100000) : ∀ i, i ≤ l.length → ∀ (A B : List Int) (cy : Int), B.length = A.length → 0 < A.length → A.length + (l.length - i) < 1000000 → 0 ≤ cy → cy + (l.length - i : Nat) < 1000000 →
  lim (some [2, 5, 6]) 0 (blk 0 (om Tryz.prog ⟨38, none⟩ 0 (.loop (lpb Tryz.f38 0)) ⟨⟨94, [(1, .rsl a c 1 (l.map zat)), (2, .ptr 0 0), (5, .sl 1 0 A.length 1), (6, .sl 2 0 A.length 1), (7, .int .i64 cy), (8, .int .i64 i)]⟩, [], ⟨3, [mB m, itB A, itB B]⟩⟩)) =
  some (.normal, ⟨⟨94, [(2, .ptr 0 0), (5, .sl 1 0 (A.length + (evF (l.drop i) cy).length) 1), (6, .sl 2 0 (A.length + (evF (l.drop i) cy).length) 1)]⟩, [], ⟨3, [mB m, itB (A ++ (evF (l.drop i) cy).map (·.1)), itB (B ++ (evF (l.drop i) cy).map (·.2))]⟩⟩) := by
 refine zbl (fun A B cy hAB h0 h1 h2 h3 => ?_) (fun i h ih A B cy hAB h0 h1 h2 h3 => ?_) <;> rw [zac]
 ·simp (maxSteps := 1000000) -implicitDefEqProofs only [↓reduceIte, ↓cond_true, ↓cond_false, sr1, sr2, kA, seval, d38, zdl, zdm, zdn, n38, zhf, e38, List.drop_length, evF, itB, mB, zae, zaw, za1, List.map_nil]
 ·rw [List.drop_eq_getElem_cons h, evF]
  cases hx : decide (l[i] = -1) with
  | true =>
   have hw : IntKind.i64.wrap (cy + 1) = cy + 1 := zdr (by omega) (by omega)
   have L := ih A B (cy + 1) hAB h0 (by omega) (by omega) (by omega)
   simp only [itB, mB, zae] at L
   simp (maxSteps := 1000000) -implicitDefEqProofs only [↓reduceIte, ↓cond_true, ↓cond_false, sr1, sr2, kA, seval, d38, zdl, zdm, zdn, n38, zhf, e38, dlt_t h, wi_nat (show i < 2 ^ 62 by omega), ix_sl ha h, zat, hx, hw, itB, mB, zae, zaw, za1, L]
  | false =>
   have L := ih (A ++ [cy]) (B ++ [l[i]]) cy (by simp [hAB]) (by simp) (by simp; omega) h2 (by omega)
   have f1 : zos 8 A.length 1 = true := zco (by omega) (by decide)
   have f2 : zos 8 B.length 1 = true := zco (by omega) (by decide)
   have e3 : (A ++ [cy]).length = A.length + 1 := by simp
   have e4 : ∀ n, A.length + 1 + n = A.length + (n + 1) := fun n => by omega
   simp only [e3, e4, List.append_assoc, List.singleton_append, List.map_append, List.map_cons, List.map_nil, zat, itB, mB, zae] at L
   simp (maxSteps := 1000000) -implicitDefEqProofs only [↓reduceIte, ↓cond_true, ↓cond_false, sr1, sr2, kA, seval, d38, zdl, zdm, zdn, n38, zhf, e38, dlt_t h, wi_nat (show i < 2 ^ 62 by omega), ix_sl ha h, zat, hx, hAB, f1, itB, mB, zae, zaw, za1, zd4, List.length_map, L, List.map_append, List.map_cons, List.map_nil]
theorem yasu (m : MMach) (a : Option Addr) (c : Nat) (l : List Int) (ha : okS a (l.map zat) = true) (hl : l.length < 100000) : ∀ i, i ≤ l.length → ∀ cy : Int, 0 ≤ cy → cy + (l.length - i : Nat) < 1000000 →
  lim (some [2, 5, 6]) 0 (blk 0 (om Tryz.prog ⟨38, none⟩ 0 (.loop (lpb Tryz.f38 0)) ⟨⟨94, [(1, .rsl a c 1 (l.map zat)), (2, .ptr 0 0), (5, .rsl none 0 0 []), (6, .rsl none 0 0 []), (7, .int .i64 cy), (8, .int .i64 i)]⟩, [], ⟨1, [mB m]⟩⟩)) =
  bif (evF (l.drop i) cy).isEmpty then some (.normal, ⟨⟨94, [(2, .ptr 0 0), (5, .rsl none 0 0 []), (6, .rsl none 0 0 [])]⟩, [], ⟨1, [mB m]⟩⟩) else
  some (.normal, ⟨⟨94, [(2, .ptr 0 0), (5, .sl 1 0 (evF (l.drop i) cy).length 1), (6, .sl 2 0 (evF (l.drop i) cy).length 1)]⟩, [], ⟨3, [mB m, itB ((evF (l.drop i) cy).map (·.1)), itB ((evF (l.drop i) cy).map (·.2))]⟩⟩) := by
 refine zbl (fun cy h2 h3 => ?_) (fun i h ih cy h2 h3 => ?_) <;> rw [zac]
 ·simp (maxSteps := 1000000) -implicitDefEqProofs only [↓reduceIte, ↓cond_true, ↓cond_false, sr1, sr2, kA, seval, d38, zdl, zdm, zdn, n38, zhf, e38, List.drop_length, evF, mB, zae, List.isEmpty_nil]
 ·rw [List.drop_eq_getElem_cons h, evF]
  cases hx : decide (l[i] = -1) with
  | true =>
   have hw : IntKind.i64.wrap (cy + 1) = cy + 1 := zdr (by omega) (by omega)
   have L := ih (cy + 1) (by omega) (by omega)
   simp only [itB, mB, zae] at L
   simp (maxSteps := 1000000) -implicitDefEqProofs only [↓reduceIte, ↓cond_true, ↓cond_false, sr1, sr2, kA, seval, d38, zdl, zdm, zdn, n38, zhf, e38, dlt_t h, wi_nat (show i < 2 ^ 62 by omega), ix_sl ha h, zat, hx, hw, itB, mB, zae, L]
  | false =>
   have L := yan0 m a c l ha hl (i + 1) h [cy] [l[i]] cy rfl (by simp) (by simp; omega) h2 (by omega)
   have f1 : zos 8 0 1 = true := zco (by omega) (by decide)
   have e4 : ∀ n, 1 + n = n + 1 := fun n => by omega
   simp only [List.length_cons, List.length_nil, Nat.zero_add, List.singleton_append, e4, List.map_cons, List.map_nil, zat, itB, mB, zae] at L
   simp (maxSteps := 1000000) -implicitDefEqProofs only [↓reduceIte, ↓cond_true, ↓cond_false, sr1, sr2, kA, seval, d38, zdl, zdm, zdn, n38, zhf, e38, dlt_t h, wi_nat (show i < 2 ^ 62 by omega), ix_sl ha h, zat, hx, f1, itB, mB, zae, L, List.map_cons, List.isEmpty_cons]
   trace_state
def uAt (m : MMach) (x : Int) : Int := match m.instrs[x.toNat]? with | some s => s.unit | none => 0
def bAt (m : MMach) (x : Int) : Int := match m.instrs[x.toNat]? with | some s => s.busy | none => 0
def cntI (m : MMach) (u : Int) : Int := match m.units[u.toNat]? with | some x => x.count | none => 0
def hitB (m : MMach) (A B : List Int) (k j : Nat) : Bool := decide (uAt m (B.getD j 0) = uAt m (B.getD k 0)) && decide (A.getD k 0 < A.getD j 0 + bAt m (B.getD j 0))
def zuy (p : Nat → Bool) (i n : Nat) : Nat := (List.range' i (n - i)).countP p
theorem yag2 {p : Nat → Bool} {n : Nat} : zuy p n n = 0 := by simp [zuy]
theorem yace {p : Nat → Bool} {i n : Nat} (h : i < n) : zuy p i n = (bif p i then 1 else 0) + zuy p (i + 1) n := by
 unfold zuy
 rw [show n - i = (n - (i + 1)) + 1 by omega, List.range'_succ, List.countP_cons]
 cases p i <;> simp [Nat.add_comm]
def zt8 (m : MMach) (A B : List Int) (k : Nat) : Bool := decide (cntI m (uAt m (B.getD k 0)) < (zuy (hitB m A B k) 0 (k + 1) : Nat))
theorem yaf2 {m : MMach} {x : Int} (h : x.toNat < m.instrs.length) : uAt m x = m.instrs[x.toNat].unit := by unfold uAt; rw [List.getElem?_eq_getElem h]
theorem yabw {m : MMach} {x : Int} (h : x.toNat < m.instrs.length) : bAt m x = m.instrs[x.toNat].busy := by unfold bAt; rw [List.getElem?_eq_getElem h]
structure AtOk (m : MMach) (A B : List Int) : Prop where
 l : B.length = A.length
 n : A.length < 1000000
 a : ∀ x ∈ A, 0 ≤ x ∧ x < 1000000
 b : ∀ x ∈ B, 0 ≤ x ∧ x < (m.instrs.length : Int)
theorem gi {l : List Int} {i : Nat} (h : i < l.length) : (l.map zat)[i]? = some (.int .i64 (l.getD i 0)) := by
 rw [List.getElem?_map, List.getElem?_eq_getElem h]; simp [h, zat]
theorem AtOk.at {m : MMach} {A B : List Int} (h : AtOk m A B) {i : Nat} (hi : i < A.length) : 0 ≤ A.getD i 0 ∧ A.getD i 0 < 1000000 := by
 rw [za2 hi]; exact h.a _ (List.getElem_mem hi)
theorem AtOk.wh {m : MMach} {A B : List Int} (h : AtOk m A B) {i : Nat} (hi : i < A.length) : 0 ≤ B.getD i 0 ∧ (B.getD i 0).toNat < m.instrs.length := by
 have hb : i < B.length := by rw [h.l]; exact hi
 rw [za2 hb]
 have := h.b _ (List.getElem_mem hb)
 omega
abbrev cfH (m : MMach) (A B : List Int) : Heap := ⟨3, [some (.cells 27 (zae m)), some (.cells 3 (A.map zat)), some (.cells 3 (B.map zat))]⟩
theorem yan2 (m : MMach) (hv : VM m) (A B : List Int) (hA : AtOk m A B) (k : Nat) (hk : k < A.length) : ∀ i, i ≤ k + 1 → ∀ n : Nat, n + (k + 1 - i) < 1000000 →
  lim (some [2, 5, 6, 9, 10, 11]) 0 (blk 4 (om Tryz.prog ⟨38, none⟩ 0 (.loop (lpb Tryz.f38 2)) ⟨⟨94, [(2, .ptr 0 0), (5, .sl 1 0 A.length 1), (6, .sl 2 0 A.length 1), (9, .int .i64 k), (10, .int .i64 (uAt m (B.getD k 0))), (11, .int .i64 (n : Nat)), (12, .int .i64 (i : Nat))]⟩, [], cfH m A B⟩)) =
  some (.normal, ⟨⟨94, [(2, .ptr 0 0), (5, .sl 1 0 A.length 1), (6, .sl 2 0 A.length 1), (9, .int .i64 k), (10, .int .i64 (uAt m (B.getD k 0))), (11, .int .i64 ((n + zuy (hitB m A B k) i (k + 1) : Nat) : Int))]⟩, [], cfH m A B⟩) := by
 have hn := hA.n
 have hl := hA.l
 refine zbl (fun n h1 => ?_) (fun i h ih n h1 => ?_) <;> rw [zac]
 ·have d0 : decide (((k + 1 : Nat) : Int) ≤ (k : Int)) = false := decide_eq_false (by omega)
  simp (maxSteps := 1000000) -implicitDefEqProofs only [↓reduceIte, ↓cond_true, ↓cond_false, sr1, sr2, kA, seval, d38, zdl, zdm, zdn, n38, zhf, e38, cfH, zae, d0, yag2, zaw, za1]
 ·have d0 : decide ((i : Int) ≤ (k : Int)) = true := decide_eq_true (by omega)
  have hi : i < A.length := by omega
  have hiB : i < B.length := by omega
  obtain ⟨w0, w1⟩ := hA.wh hi
  obtain ⟨t0, t1⟩ := hA.at hi
  have g1 := gi hi
  have g2 := gi hk
  have g3 := gi hiB
  have ib := ix_z (f := zad) (k := .i64) (a := slA m.pi m.instrs) (c := m.pi.cap) (sz := 9) zab w0 w1
  have i1 : ∀ b, ixA 1 (.sl b 0 A.length 1) (.int .i64 (i : Int)) = some (.ptr b i) := fun b => by rw [Go.Ab.ix_sl hi]; simp
  have i2 : ∀ b, ixA 1 (.sl b 0 A.length 1) (.int .i64 (k : Int)) = some (.ptr b k) := fun b => by rw [Go.Ab.ix_sl hk]; simp
  have hb := (hv.s _ (List.getElem_mem w1)).b
  have eh : hitB m A B k i = (decide (m.instrs[(B.getD i 0).toNat].unit = uAt m (B.getD k 0)) && decide (A.getD k 0 < A.getD i 0 + m.instrs[(B.getD i 0).toNat].busy)) := by
   unfold hitB; rw [yaf2 w1, yabw w1]
  rw [yace h, eh]
  generalize m.instrs[(B.getD i 0).toNat] = s at *
  have ww : IntKind.i64.wrap (A.getD i 0 + s.busy) = A.getD i 0 + s.busy := zdr (by omega) (by omega)
  have wn : IntKind.i64.wrap ((n : Int) + 1) = ((n + 1 : Nat) : Int) := by rw [zdr (by omega) (by omega)]; omega
  have L0 := ih n (by omega)
  have L1 := ih (n + 1) (by omega)
  simp only [cfH, zae] at L0 L1
  cases h2 : decide (s.unit = uAt m (B.getD k 0)) with
  | false => simp (maxSteps := 1000000) -implicitDefEqProofs only [↓reduceIte, ↓cond_true, ↓cond_false, sr1, sr2, kA, seval, d38, zdl, zdm, zdn, n38, zhf, e38, cfH, zae, d0, wi_nat (show i < 2 ^ 62 by omega), i1, i2, g1, g2, g3, ib, zad, h2, zaw, za1, L0]
  | true =>
   cases h3 : decide (A.getD k 0 < A.getD i 0 + s.busy) with
   | false => simp (maxSteps := 1000000) -implicitDefEqProofs only [↓reduceIte, ↓cond_true, ↓cond_false, sr1, sr2, kA, seval, d38, zdl, zdm, zdn, n38, zhf, e38, cfH, zae, d0, wi_nat (show i < 2 ^ 62 by omega), i1, i2, g1, g2, g3, ib, zad, h2, ww, h3, zaw, za1, L0]
   | true =>
    have e : n + 1 + zuy (hitB m A B k) (i + 1) (k + 1) = n + (1 + zuy (hitB m A B k) (i + 1) (k + 1)) := by omega
    rw [e] at L1
    simp (maxSteps := 1000000) -implicitDefEqProofs only [↓reduceIte, ↓cond_true, ↓cond_false, sr1, sr2, kA, seval, d38, zdl, zdm, zdn, n38, zhf, e38, cfH, zae, d0, wi_nat (show i < 2 ^ 62 by omega), i1, i2, g1, g2, g3, ib, zad, h2, ww, h3, wn, zaw, za1, L1]
theorem yan1 (m : MMach) (hv : VM m) (A B : List Int) (hA : AtOk m A B) : ∀ k, k ≤ A.length →
  lim (some []) 0 (blk 2 (om Tryz.prog ⟨38, none⟩ 0 (.loop (lpb Tryz.f38 1)) ⟨⟨94, [(2, .ptr 0 0), (5, .sl 1 0 A.length 1), (6, .sl 2 0 A.length 1), (9, .int .i64 (k : Nat))]⟩, [], cfH m A B⟩)) =
  bif zb0 (fun k => !zt8 m A B k) k A.length then some (.normal, ⟨⟨94, []⟩, [], ⟨0, []⟩⟩) else some (.ret, ⟨⟨94, [(4, .bool true)]⟩, [], ⟨0, []⟩⟩) := by
 have hn := hA.n
 have hl := hA.l
 refine zbl ?_ (fun k h ih => ?_) <;> rw [zac]
 ·simp (maxSteps := 1000000) -implicitDefEqProofs only [↓reduceIte, ↓cond_true, ↓cond_false, sr1, sr2, kA, seval, d38, zdl, zdm, zdn, n38, zhf, e38, cfH, zae, za4, zaw, za1]
 ·have hk : k < B.length := by omega
  obtain ⟨w0, w1⟩ := hA.wh h
  have g3 := gi hk
  have ib := ix_z (f := zad) (k := .i64) (a := slA m.pi m.instrs) (c := m.pi.cap) (sz := 9) zab w0 w1
  have i2 : ∀ b, ixA 1 (.sl b 0 A.length 1) (.int .i64 (k : Int)) = some (.ptr b k) := fun b => by rw [Go.Ab.ix_sl h]; simp
  obtain ⟨u0, u1⟩ := (hv.s _ (List.getElem_mem w1)).u
  have iu := ix_z (f := unV) (k := .i64) (a := slA m.pu m.units) (c := m.pu.cap) (sz := 2) zab u0 u1
  have eu : uAt m (B.getD k 0) = m.instrs[(B.getD k 0).toNat].unit := yaf2 w1
  have ec : cntI m m.instrs[(B.getD k 0).toNat].unit = m.units[m.instrs[(B.getD k 0).toNat].unit.toNat].count := by unfold cntI; rw [List.getElem?_eq_getElem u1]
  have L2 := yan2 m hv A B hA k h 0 (Nat.zero_le _) 0 (by omega)
  rw [zch h]
  have eo : zt8 m A B k = decide (m.units[m.instrs[(B.getD k 0).toNat].unit.toNat].count < (zuy (hitB m A B k) 0 (k + 1) : Nat)) := by unfold zt8; rw [eu, ec]
  rw [eo]
  rw [eu] at L2
  simp only [cfH, zae, Nat.zero_add, Int.natCast_zero] at L2
  generalize m.units[m.instrs[(B.getD k 0).toNat].unit.toNat] = y at *
  generalize m.instrs[(B.getD k 0).toNat] = s at *
  have dk : decide ((k : Int) < (A.length : Int)) = true := decide_eq_true (by omega)
  cases hc : decide (y.count < (zuy (hitB m A B k) 0 (k + 1) : Nat)) with
  | true => simp (maxSteps := 1000000) -implicitDefEqProofs only [↓reduceIte, ↓cond_true, ↓cond_false, sr1, sr2, kA, seval, d38, zdl, zdm, zdn, n38, zhf, e38, cfH, zae, dk, wi_nat (show k < 2 ^ 62 by omega), i2, g3, ib, zad, iu, unV, L2, hc, zaw, za1]
  | false => simp (maxSteps := 1000000) -implicitDefEqProofs only [↓reduceIte, ↓cond_true, ↓cond_false, sr1, sr2, kA, seval, d38, zdl, zdm, zdn, n38, zhf, e38, cfH, zae, dk, wi_nat (show k < 2 ^ 62 by omega), i2, g3, ib, zad, iu, unV, L2, hc, zaw, za1, ih]
def zzl (m : MMach) (l : List Int) : Bool := !zb0 (fun k => !zt8 m ((evF l 0).map (·.1)) ((evF l 0).map (·.2)) k) 0 (evF l 0).length
theorem zxu {m : MMach} : ∀ {l : List Int} {c : Int}, (∀ x ∈ l, -1 ≤ x ∧ x < (m.instrs.length : Int)) → 0 ≤ c → c + l.length < 1000000 → ∀ p ∈ evF l c, (0 ≤ p.1 ∧ p.1 < 1000000) ∧ 0 ≤ p.2 ∧ p.2 < (m.instrs.length : Int)
 | [], c, _, _, _, p, hp => by cases hp
 | x :: l, c, h, h0, h1, p, hp => by
  simp only [List.length_cons] at h1
  have hx := h x (by simp)
  rw [evF] at hp
  cases hd : decide (x = -1) with
  | true =>
   rw [hd] at hp
   exact zxu (fun y hy => h y (by simp [hy])) (by omega) (by omega) p hp
  | false =>
   rw [hd] at hp
   have := of_decide_eq_false hd
   rcases List.mem_cons.1 hp with rfl | hp
   ·exact ⟨⟨h0, by dsimp only; omega⟩, by dsimp only; omega, hx.2⟩
   ·exact zxu (fun y hy => h y (by simp [hy])) h0 (by omega) p hp
theorem yag4 (m : MMach) (hv : VM m) (a : Option Addr) (c : Nat) (l : List Int) (ha : okS a (l.map zat) = true) (hl : l.length < 100000) (hL : ∀ x ∈ l, -1 ≤ x ∧ x < (m.instrs.length : Int)) : zas Tryz.prog (om Tryz.prog) 38 [zag m, .rsl a c 1 (l.map zat)] ⟨0, []⟩ = some (.bool (zzl m l), ⟨0, []⟩) := by
 have K0 := yasu m a c l ha hl 0 (Nat.zero_le _) 0 (Int.le_refl _) (by omega)
 have hE := zxu (c := 0) hL (Int.le_refl _) (by omega)
 have hlen := zvs (l := l) (c := 0)
 unfold zzl
 simp only [Int.natCast_zero, List.drop_zero] at K0
 generalize evF l 0 = E at *
 have hA : AtOk m (E.map (·.1)) (E.map (·.2)) := ⟨by simp, by simp; omega, fun x hx => by obtain ⟨p, hp, rfl⟩ := List.mem_map.1 hx; exact (hE p hp).1, fun x hx => by obtain ⟨p, hp, rfl⟩ := List.mem_map.1 hx; exact (hE p hp).2⟩
 have K1 := yan1 m hv _ _ hA 0 (Nat.zero_le _)
 simp only [cfH, zae, Int.natCast_zero, List.length_map] at K1
 simp only [mB, itB, zae] at K0
 rw [yarq _ _ (by simp)]
 cases hE0 : E.isEmpty with
 | true =>
  rw [hE0] at K0
  have e : E = [] := List.isEmpty_iff.1 hE0
  have kz : lim (some []) 0 (blk 2 (om Tryz.prog ⟨38, none⟩ 0 (.loop (lpb Tryz.f38 1)) ⟨⟨94, [(2, .ptr 0 0), (5, .rsl none 0 0 []), (6, .rsl none 0 0 []), (9, .int .i64 0)]⟩, [], ⟨1, [mB m]⟩⟩)) = some (.normal, ⟨⟨94, []⟩, [], ⟨0, []⟩⟩) := by
   rw [zac]
   simp (maxSteps := 1000000) -implicitDefEqProofs only [↓reduceIte, ↓cond_true, ↓cond_false, sr1, sr2, kA, seval, d38, zdl, zdm, zdn, n38, zhf, e38, mB, zae]
  simp only [mB, zae] at kz
  rw [e]
  simp (maxSteps := 1000000) -implicitDefEqProofs only [↓reduceIte, ↓cond_true, ↓cond_false, sr1, sr2, kA, seval, d38, zdl, zdm, zdn, n38, zhf, e38, zag, zae, K0, kz, List.length_nil, za4]
 | false =>
  rw [hE0] at K0
  cases hc : zb0 (fun k => !zt8 m (E.map (·.1)) (E.map (·.2)) k) 0 E.length with
  | true =>
   rw [hc] at K1
   simp (maxSteps := 1000000) -implicitDefEqProofs only [↓reduceIte, ↓cond_true, ↓cond_false, sr1, sr2, kA, seval, d38, zdl, zdm, zdn, n38, zhf, e38, zag, zae, K0, zaw, za1, K1]
  | false =>
   rw [hc] at K1
   simp (maxSteps := 1000000) -implicitDefEqProofs only [↓reduceIte, ↓cond_true, ↓cond_false, sr1, sr2, kA, seval, d38, zdl, zdm, zdn, n38, zhf, e38, zag, zae, K0, zaw, za1, K1]
def accE (m : MMach) (l : List Int) : Int := bif decide (zb3 m = 0) then zra l m.instrs.length else zb3 m
theorem zrb {l : List Int} {n : Int} (h : zra l n = 0) : (∀ x ∈ l, -1 ≤ x ∧ x < n) ∧ l.length ≤ 4096 := by
 unfold zra at h
 cases h1 : decide (4096 < (l.length : Int)) with
 | true => rw [h1] at h; simp at h
 | false =>
  rw [h1] at h
  cases h2 : l.all (fun x => !badL n x) with
  | false => rw [h2] at h; simp at h
  | true =>
   refine ⟨fun x hx => ?_, by have := of_decide_eq_false h1; omega⟩
   have := List.all_eq_true.1 h2 x hx
   simp only [badL, Bool.not_eq_true', Bool.or_eq_false_iff, decide_eq_false_iff_not] at this
   omega
theorem yagn (m : MMach) (hm : MOk m) (a : Option Addr) (c : Nat) (l : List Int) (ha : okS a (l.map zat) = true) (hl : l.length < 2 ^ 62) : zas Tryz.prog (om Tryz.prog) 16 [zag m, .rsl a c 1 (l.map zat)] ⟨0, []⟩ = some (.tup [.bool (decide (accE m l = 0) && accF m l z32), .int .i64 (accE m l)], ⟨0, []⟩) := by
 have hC := zk1 m hm
 have hL := yadw a c l ha hl m.instrs.length
 simp only [zag, zae] at hC
 unfold accE
 rw [yard _ _ (by simp)]
 cases h0 : decide (zb3 m = 0) with
 | false =>
  have h0' : (zb3 m = 0) = False := eq_false (of_decide_eq_false h0)
  simp (maxSteps := 1000000) -implicitDefEqProofs only [↓reduceIte, ↓cond_true, ↓cond_false, sr1, sr2, kA, seval, d16, zll, n16, zts, e16, zag, zae, hC, h0, h0']
 | true =>
  have hv := vm hm.b (of_decide_eq_true h0)
  cases h1 : decide (zra l m.instrs.length = 0) with
  | false => simp (maxSteps := 1000000) -implicitDefEqProofs only [↓reduceIte, ↓cond_true, ↓cond_false, sr1, sr2, kA, seval, d16, zll, n16, zts, e16, zag, zae, hC, h0, of_decide_eq_true h0, hL, h1]
  | true =>
   have h1' := of_decide_eq_true h1
   obtain ⟨q1, _⟩ := zrb h1'
   have K := yaxs m hm.b hv a c l ha hl q1 0 (Nat.zero_le _) z32 rfl
   simp only [muH, zae, Int.natCast_zero, List.drop_zero] at K
   cases hF : accF m l z32 with
   | true =>
    rw [hF] at K
    simp (maxSteps := 1000000) -implicitDefEqProofs only [↓reduceIte, ↓cond_true, ↓cond_false, sr1, sr2, kA, seval, d16, zll, n16, zts, e16, zag, zae, hC, h0, of_decide_eq_true h0, hL, h1', zuv, zbp, zcd, K]
   | false =>
    rw [hF] at K
    simp (maxSteps := 1000000) -implicitDefEqProofs only [↓reduceIte, ↓cond_true, ↓cond_false, sr1, sr2, kA, seval, d16, zll, n16, zts, e16, zag, zae, hC, h0, of_decide_eq_true h0, hL, h1', zuv, zbp, zcd, K]
theorem yago (m : MMach) (hm : NOk8 m) (a : Option Addr) (c : Nat) (l : List Int) (ha : okS a (l.map zat) = true) (hl : l.length < 2 ^ 62) : zas Tryz.prog (om Tryz.prog) 17 [zag m, .rsl a c 1 (l.map zat)] ⟨0, []⟩ = some (.tup [.bool (decide (accE m l = 0) && !zzl m l), .int .i64 (accE m l)], ⟨0, []⟩) := by
 have hC := zkh m hm
 rw [yad1 m hm] at hC
 have hL := yadx a c l ha hl m.instrs.length
 simp only [zag, zae] at hC
 unfold accE
 rw [yare _ _ (by simp)]
 cases h0 : decide (zb3 m = 0) with
 | false =>
  have h0' : (zb3 m = 0) = False := eq_false (of_decide_eq_false h0)
  simp (maxSteps := 1000000) -implicitDefEqProofs only [↓reduceIte, ↓cond_true, ↓cond_false, sr1, sr2, kA, seval, d17, n17, zag, zae, hC, h0, h0']
 | true =>
  have hv := vm hm.b (of_decide_eq_true h0)
  cases h1 : decide (zra l m.instrs.length = 0) with
  | false => simp (maxSteps := 1000000) -implicitDefEqProofs only [↓reduceIte, ↓cond_true, ↓cond_false, sr1, sr2, kA, seval, d17, n17, zag, zae, hC, h0, of_decide_eq_true h0, hL, h1]
  | true =>
   have h1' := of_decide_eq_true h1
   obtain ⟨q1, q2⟩ := zrb h1'
   have K := yag4 m hv a c l ha (by omega) q1
   simp only [zag, zae] at K
   simp (maxSteps := 1000000) -implicitDefEqProofs only [↓reduceIte, ↓cond_true, ↓cond_false, sr1, sr2, kA, seval, d17, n17, zag, zae, hC, h0, of_decide_eq_true h0, hL, h1', K]
theorem zvl {p : Int → Bool} {l : List Int} {i : Nat} {a : Int} (h : i < l.length) : (l.set i a).countP p + (if p (l.getD i 0) then 1 else 0) = l.countP p + (if p a then 1 else 0) := by
 rw [List.countP_set h]
 have e : l.getD i 0 = l[i] := by simp [h]
 rw [e]
 by_cases hp : p l[i] = true
 ·have : 0 < l.countP p := List.countP_pos_iff.2 ⟨l[i], List.getElem_mem h, hp⟩
  simp only [hp, if_true]; omega
 ·simp only [hp]; simp
theorem zd1 {l : List Int} {i j : Nat} {a : Int} (h : i < l.length) : (l.set i a).getD j 0 = if i = j then a else l.getD j 0 := by
 simp only [List.getD_eq_getElem?_getD, List.getElem?_set]
 by_cases e : i = j
 ·subst e; simp [h]
 ·simp [e]
def srt (R : List Int) : Prop := ∀ i j, i ≤ j → j < R.length → R.getD j 0 ≤ R.getD i 0
def swp (R : List Int) (k : Nat) : List Int := (R.set (k + 1) (R.getD k 0)).set k (R.getD (k + 1) 0)
def zxh : Nat → List Int → List Int
 | 0, R => R
 | k + 1, R => bif decide (R.getD k 0 < R.getD (k + 1) 0) then zxh k (swp R k) else R
theorem zol {R : List Int} {k : Nat} : (swp R k).length = R.length := by simp [swp]
theorem zxi : ∀ {k : Nat} {R : List Int}, (zxh k R).length = R.length
 | 0, R => rfl
 | k + 1, R => by
  rw [zxh]
  cases decide (R.getD k 0 < R.getD (k + 1) 0) with
  | false => rfl
  | true => simp only [cond_true]; rw [zxi, zol]
theorem yap8 {p : Int → Bool} {R : List Int} {k : Nat} (h : k + 1 < R.length) : (swp R k).countP p = R.countP p := by
 have h1 := zvl (p := p) (l := R) (i := k + 1) (a := R.getD k 0) h
 have h2 := zvl (p := p) (l := R.set (k + 1) (R.getD k 0)) (i := k) (a := R.getD (k + 1) 0) (by simp; omega)
 have e0 : (R.set (k + 1) (R.getD k 0)).getD k 0 = R.getD k 0 := by rw [zd1 h, if_neg (by omega)]
 rw [e0] at h2
 unfold swp
 omega
theorem zqn {p : Int → Bool} : ∀ {k : Nat} {R : List Int}, k < R.length → (zxh k R).countP p = R.countP p
 | 0, R, _ => rfl
 | k + 1, R, h => by
  rw [zxh]
  cases decide (R.getD k 0 < R.getD (k + 1) 0) with
  | false => rfl
  | true => simp only [cond_true]; rw [zqn (by rw [zol]; omega), yap8 h]
theorem zrz {R : List Int} {k j : Nat} (h : k + 1 < R.length) : (swp R k).getD j 0 = if j = k then R.getD (k + 1) 0 else if j = k + 1 then R.getD k 0 else R.getD j 0 := by
 unfold swp
 rw [zd1 (by simp; omega), zd1 h]
 by_cases e1 : j = k
 ·simp [e1]
 ·by_cases e2 : j = k + 1
  ·simp [e2]
  ·simp [e1, e2, Ne.symm e1, Ne.symm e2]
theorem zxj : ∀ {k : Nat} {R : List Int}, k < R.length → (∀ i j, i ≤ j → j < R.length → i ≠ k → j ≠ k → R.getD j 0 ≤ R.getD i 0) → (∀ j, k < j → j < R.length → R.getD j 0 ≤ R.getD k 0) → srt (zxh k R)
 | 0, R, hk, h1, h2 => fun i j hij hj => by
  rw [zxh]
  rw [zxh] at hj
  by_cases ei : i = 0
  ·subst ei
   by_cases ej : j = 0
   ·subst ej; exact Int.le_refl _
   ·exact h2 j (by omega) hj
  ·exact h1 i j hij hj ei (by omega)
 | k + 1, R, hk, h1, h2 => by
  rw [zxh]
  cases hd : decide (R.getD k 0 < R.getD (k + 1) 0) with
  | false =>
   have hd' := of_decide_eq_false hd
   intro i j hij hj
   simp only [cond_false] at hj ⊢
   by_cases ei : i = k + 1
   ·subst ei
    by_cases ej : j = k + 1
    ·subst ej; exact Int.le_refl _
    ·exact h2 j (by omega) hj
   ·by_cases ej : j = k + 1
    ·subst ej
     have := h1 i k (by omega) (by omega) ei (by omega)
     omega
    ·exact h1 i j hij hj ei ej
  | true =>
   have hd' := of_decide_eq_true hd
   simp only [cond_true]
   refine zxj (by rw [zol]; omega) (fun i j hij hj hi hjk => ?_) (fun j hkj hj => ?_)
   ·rw [zol] at hj
    rw [zrz hk, zrz hk, if_neg hi, if_neg hjk]
    by_cases ej : j = k + 1
    ·rw [if_pos ej]
     by_cases ei : i = k + 1
     ·rw [if_pos ei]; exact Int.le_refl _
     ·rw [if_neg ei]; exact h1 i k (by omega) (by omega) ei (by omega)
    ·rw [if_neg ej]
     by_cases ei : i = k + 1
     ·rw [if_pos ei]; exact h1 k j (by omega) hj (by omega) ej
     ·rw [if_neg ei]; exact h1 i j hij hj ei ej
   ·rw [zol] at hj
    rw [zrz hk, zrz hk, if_pos rfl, if_neg (by omega)]
    by_cases ej : j = k + 1
    ·rw [if_pos ej]; omega
    ·rw [if_neg ej]; exact h2 j (by omega) hj
def zfj (U : List Int) (o c : Nat) : List Int := (U.drop o).take c
theorem yai5 {U : List Int} {o c : Nat} (h : o + c ≤ U.length) : (zfj U o c).length = c := by simp [zfj]; omega
theorem zki {U : List Int} {o c j : Nat} (h : j < c) : (zfj U o c).getD j 0 = U.getD (o + j) 0 := by
 simp only [zfj, List.getD_eq_getElem?_getD, List.getElem?_take, if_pos h, List.getElem?_drop]
theorem zrp {U : List Int} {o c j : Nat} {x : Int} : zfj (U.set (o + j) x) o c = (zfj U o c).set j x := by
 unfold zfj
 rw [List.drop_set, if_neg (by omega), List.take_set, Nat.add_sub_cancel_left]
theorem zk7 {U : List Int} {o c i : Nat} {x : Int} (h : i < o ∨ o + c ≤ i) : zfj (U.set i x) o c = zfj U o c := by
 unfold zfj
 rw [List.drop_set]
 by_cases hi : i < o
 ·rw [if_pos hi]
 ·rw [if_neg hi, List.take_set, List.set_eq_of_length_le (by simp; omega)]
theorem yae7 {o c : Nat} : ∀ {k : Nat} {U : List Int}, k < c → zfj (bub o k U) o c = zxh k (zfj U o c)
 | 0, U, _ => rfl
 | k + 1, U, hk => by
  rw [bub, zxh, zki (by omega), zki hk]
  cases decide (U.getD (o + k) 0 < U.getD (o + (k + 1)) 0) with
  | false => rfl
  | true =>
   simp only [cond_true]
   rw [yae7 (by omega)]
   unfold sw swp
   rw [zrp, zrp, zki hk, zki (by omega)]
theorem zkj {o c o' c' : Nat} (h : o + c ≤ o' ∨ o' + c' ≤ o) : ∀ {k : Nat} {U : List Int}, k < c → zfj (bub o k U) o' c' = zfj U o' c'
 | 0, U, _ => rfl
 | k + 1, U, hk => by
  rw [bub]
  cases decide (U.getD (o + k) 0 < U.getD (o + (k + 1)) 0) with
  | false => rfl
  | true =>
   simp only [cond_true]
   rw [zkj h (by omega)]
   unfold sw
   rw [zk7 (by omega), zk7 (by omega)]
theorem zqt {x : Int} (h0 : 0 ≤ x) (h1 : x ≤ 15) : zr8 x = if 0 < x then x - 1 else 0 := by
 unfold zr8
 rw [wi8 (by omega) (by omega)]
 by_cases h : 0 < x - 1
 ·rw [decide_eq_true h, if_pos (by omega)]; rfl
 ·rw [decide_eq_false h]
  simp only [cond_false]
  split <;> omega
def zi0 (m : MMach) (u c : Int) (p : Int × Int) : Bool := decide (uAt m p.2 = u) && decide (c < p.1 + bAt m p.2)
structure Inv (m : MMach) (U : List Int) (P : List (Int × Int)) (c : Int) : Prop where
 len : U.length = 32
 srt : ∀ u : Nat, u < m.units.length → srt (zfj U (u * 4) (zaj m u))
 rng : ∀ u : Nat, u < m.units.length → ∀ x ∈ zfj U (u * 4) (zaj m u), 0 ≤ x ∧ x ≤ 15
 cnt : ∀ u : Nat, u < m.units.length → ∀ t : Nat, (zfj U (u * 4) (zaj m u)).countP (fun x => decide ((t : Int) < x)) = P.countP (zi0 m u (c + t))
theorem zro {U : List Int} {f : Int → Int} {o c : Nat} : zfj (U.map f) o c = (zfj U o c).map f := by
 simp [zfj, List.map_drop, List.map_take]
theorem yahw {m : MMach} {U : List Int} {P : List (Int × Int)} {c : Int} (I : Inv m U P c) : Inv m (U.map zr8) P (c + 1) := by
 refine ⟨by simp [I.len], fun u hu => ?_, fun u hu x hx => ?_, fun u hu t => ?_⟩
 ·intro i j hij hj
  rw [zro] at hj ⊢
  rw [List.length_map] at hj
  have g : ∀ k, k < (zfj U (u * 4) (zaj m u)).length → ((zfj U (u * 4) (zaj m u)).map zr8).getD k 0 = zr8 ((zfj U (u * 4) (zaj m u)).getD k 0) ∧ (zfj U (u * 4) (zaj m u)).getD k 0 ∈ zfj U (u * 4) (zaj m u) := fun k hk => by
   refine ⟨by simp [hk], ?_⟩
   have : (zfj U (u * 4) (zaj m u)).getD k 0 = (zfj U (u * 4) (zaj m u))[k] := by simp [hk]
   rw [this]; exact List.getElem_mem hk
  obtain ⟨g1, m1⟩ := g i (by omega)
  obtain ⟨g2, m2⟩ := g j hj
  rw [g1, g2]
  obtain ⟨r1, r2⟩ := I.rng u hu _ m1
  obtain ⟨r3, r4⟩ := I.rng u hu _ m2
  have := I.srt u hu i j hij hj
  rw [zqt r1 r2, zqt r3 r4]
  split <;> split <;> omega
 ·rw [zro] at hx
  obtain ⟨y, hy, rfl⟩ := List.mem_map.1 hx
  obtain ⟨r1, r2⟩ := I.rng u hu y hy
  rw [zqt r1 r2]
  split <;> omega
 ·rw [zro, List.countP_map]
  have h := I.cnt u hu (t + 1)
  have e : c + 1 + (t : Int) = c + ((t + 1 : Nat) : Int) := by omega
  rw [e, ← h]
  refine List.countP_congr fun x hx => ?_
  obtain ⟨r1, r2⟩ := I.rng u hu x hx
  simp only [Function.comp, decide_eq_true_eq]
  rw [zqt r1 r2]
  split <;> omega
end Go.Proofs.YtibehelnfbcnjaaGreatDoor.v
