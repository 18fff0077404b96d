/- What the law's proof leans on, part 25. Conditions: in each statement. -/
import Derived.Test.YtibehelnfbcnjaaGreatDoorQ5
set_option linter.all false
namespace Go.Proofs.YtibehelnfbcnjaaGreatDoor.v
open Go Go.Ab
set_option maxRecDepth 100000
set_option maxHeartbeats 4000000
set_option linter.unusedSimpArgs false
set_option linter.unusedVariables false
structure Ctx8 (m : MMach) (s : MInstr) : Prop where
 b : Bd m
 n : ∀ r ∈ m.regs, r.name.size < 1000000
 l : s.operands.length < 1000000
 w : ∀ o ∈ s.operands, o.kind = 1 → zet m o
abbrev mitH (m : MMach) (s : MInstr) (t : MTerm) : Heap := ⟨3, [some (.cells 27 (zae m)), some (.cells 69 (zcq s)), some (.cells 81 t.cs)]⟩
theorem yaol (m : MMach) (s : MInstr) (t : MTerm) (hl : t.sub.length < 2 ^ 62) (hS : ∀ x ∈ t.sub, zas Tryz.prog (om Tryz.prog) 143 [zag m, zad s, zaf x] ⟨0, []⟩ = some (.bool (x.nodes.all (zc5 m s)), ⟨0, []⟩)) : ∀ i, i ≤ t.sub.length → lim (some []) 0 (blk 0 (om Tryz.prog ⟨143, none⟩ 0 (.loop (lpb Tryz.f143 0)) ⟨⟨50, [(3, .ptr 0 0), (4, .ptr 1 0), (5, .ptr 2 0), (7, .int .i64 i)]⟩, [], mitH m s t⟩)) =
  bif (t.sub.drop i).all (fun x => x.nodes.all (zc5 m s)) then some (.normal, ⟨⟨50, []⟩, [], ⟨0, []⟩⟩) else some (.ret, ⟨⟨50, [(6, .bool false)]⟩, [], ⟨0, []⟩⟩) := by
 refine zbl ?_ (fun i h ih => ?_) <;> rw [zac]
 ·simp (maxSteps := 1000000) -implicitDefEqProofs only [↓reduceIte, ↓cond_true, ↓cond_false, sr1, sr2, kA, seval, d143, zgz, zg0, n143, e143, zah, List.drop_length]
 ·have hx := hS t.sub[i] (List.getElem_mem h)
  rw [List.drop_eq_getElem_cons h, List.all_cons]
  simp only [mitH, zag, zae, zad, zaf, zah] at hx ih
  cases hr : t.sub[i].nodes.all (zc5 m s) with
  | true =>
   rw [hr] at hx
   simp (maxSteps := 1000000) -implicitDefEqProofs only [↓reduceIte, ↓cond_true, ↓cond_false, sr1, sr2, kA, seval, d143, zgz, zg0, n143, e143, mitH, dlt_t h, wi_nat (show i < 2 ^ 62 by omega), zcu h, zah, hx, ih]
  | false =>
   rw [hr] at hx
   simp (maxSteps := 1000000) -implicitDefEqProofs only [↓reduceIte, ↓cond_true, ↓cond_false, sr1, sr2, kA, seval, d143, zgz, zg0, n143, e143, mitH, dlt_t h, zcu h, zah, hx]
theorem yadt (m : MMach) (s : MInstr) (hc : Ctx8 m s) (t : MTerm) (hz : t.sz < 2 ^ 62) (hn : zb6 t = true) : zas Tryz.prog (om Tryz.prog) 143 [zag m, zad s, zaf t] ⟨0, []⟩ = some (.bool (t.nodes.all (zc5 m s)), ⟨0, []⟩) := by
 refine zcc (Q := fun t => t.sz < 2 ^ 62 → zb6 t = true → zas Tryz.prog (om Tryz.prog) 143 [zag m, zad s, zaf t] ⟨0, []⟩ = some (.bool (t.nodes.all (zc5 m s)), ⟨0, []⟩)) (fun t ih hz hn => ?_) t hz hn
 have hs := zeq t
 have hn' := hn
 unfold zb6 at hn'
 rw [zcx, Bool.and_eq_true, List.all_eq_true] at hn'
 have L := yaol m s t (by omega) (fun x hx => ih x hx (by have := zix hx; omega) (hn'.2 x hx)) 0 (Nat.zero_le _)
 have hV := zup m hc.b hc.n s hc.l hc.w t.nm t.wd
 simp only [mitH, zag, zae, zad, zah, Int.natCast_zero, List.drop_zero] at L hV
 rw [zcx]
 rw [yam5 _ _ (by simp)]
 cases h2 : decide (t.kd = 2) with
 | true =>
  have h24 : decide (t.kd = 24) = false := decide_eq_false (by have := of_decide_eq_true h2; omega)
  cases hv : zfz m s t.nm t.wd with
  | false => simp (maxSteps := 1000000) -implicitDefEqProofs only [↓reduceIte, ↓cond_true, ↓cond_false, sr1, sr2, kA, seval, d143, zgz, zg0, n143, e143, zag, zae, zad, zaf, zah, h2, hV, hv, zc5]
  | true =>
   cases hr : t.sub.all (fun x => x.nodes.all (zc5 m s)) with
   | true =>
    rw [hr] at L
    simp (maxSteps := 1000000) -implicitDefEqProofs only [↓reduceIte, ↓cond_true, ↓cond_false, sr1, sr2, kA, seval, d143, zgz, zg0, n143, e143, zag, zae, zad, zaf, zah, h2, h24, hV, hv, L, zc5]
   | false =>
    rw [hr] at L
    simp (maxSteps := 1000000) -implicitDefEqProofs only [↓reduceIte, ↓cond_true, ↓cond_false, sr1, sr2, kA, seval, d143, zgz, zg0, n143, e143, zag, zae, zad, zaf, zah, h2, h24, hV, hv, L, zc5]
 | false =>
  cases h24 : decide (t.kd = 24) with
  | true =>
   have h0 := ztw hn'.1 (of_decide_eq_true h24)
   have i0 := zcu h0
   have w0 := zce h0
   simp only [Int.natCast_zero] at i0
   cases hw : decide (t.sub[0].wd = m.address) with
   | false => simp (maxSteps := 1000000) -implicitDefEqProofs only [↓reduceIte, ↓cond_true, ↓cond_false, sr1, sr2, kA, seval, d143, zgz, zg0, n143, e143, zag, zae, zad, zaf, zah, h2, h24, i0, w0, hw, zc5]
   | true =>
    cases hr : t.sub.all (fun x => x.nodes.all (zc5 m s)) with
    | true =>
     rw [hr] at L
     simp (maxSteps := 1000000) -implicitDefEqProofs only [↓reduceIte, ↓cond_true, ↓cond_false, sr1, sr2, kA, seval, d143, zgz, zg0, n143, e143, zag, zae, zad, zaf, zah, h2, h24, i0, w0, hw, L, zc5]
    | false =>
     rw [hr] at L
     simp (maxSteps := 1000000) -implicitDefEqProofs only [↓reduceIte, ↓cond_true, ↓cond_false, sr1, sr2, kA, seval, d143, zgz, zg0, n143, e143, zag, zae, zad, zaf, zah, h2, h24, i0, w0, hw, L, zc5]
  | false =>
   cases hr : t.sub.all (fun x => x.nodes.all (zc5 m s)) with
   | true =>
    rw [hr] at L
    simp (maxSteps := 1000000) -implicitDefEqProofs only [↓reduceIte, ↓cond_true, ↓cond_false, sr1, sr2, kA, seval, d143, zgz, zg0, n143, e143, zag, zae, zad, zaf, zah, h2, h24, L, zc5]
   | false =>
    rw [hr] at L
    simp (maxSteps := 1000000) -implicitDefEqProofs only [↓reduceIte, ↓cond_true, ↓cond_false, sr1, sr2, kA, seval, d143, zgz, zg0, n143, e143, zag, zae, zad, zaf, zah, h2, h24, L, zc5]
structure POk (t : MTerm) : Prop where
 f : FOk t
 s : t.sz < 1000000
theorem POk.k {t : MTerm} (h : POk t) : zha t := fun x hx => (h.f.n x hx).kd
theorem zfn (m : MMach) (s : MInstr) (hc : Ctx8 m s) (t : MTerm) (ht : POk t) : zas Tryz.prog (om Tryz.prog) 129 [zag m, zad s, zaf t] ⟨0, []⟩ = some (.bool (zng m s t), ⟨0, []⟩) := by
 have hR := zub t ht.f ht.s
 have hR' := hR
 simp only [zaf, zah] at hR'
 rw [yam0 _ _ (by simp)]
 cases h : decide (zr1 t = 0) with
 | false => simp (maxSteps := 1000000) -implicitDefEqProofs only [↓reduceIte, ↓cond_true, ↓cond_false, sr1, sr2, kA, seval, d129, n129, zag, zae, zad, zaf, zah, hR', h, zng]
 | true =>
  have hn : zb6 t = true := zon (by rw [← zzb t ht.k]; exact h)
  have hK := yadt m s hc t ht.f.sz hn
  simp only [zag, zae, zad, zaf, zah] at hK
  simp (maxSteps := 1000000) -implicitDefEqProofs only [↓reduceIte, ↓cond_true, ↓cond_false, sr1, sr2, kA, seval, d129, n129, zag, zae, zad, zaf, zah, hR', h, hK, zng]
structure XOk (x : MEff) : Prop where
 a : POk x.addr
 v : POk x.value
 c : POk x.cond
theorem yaph (m : MMach) (s : MInstr) (hc : Ctx8 m s) (x : MEff) (ho : XOk x) (h1 : decide (x.kind = 1) = false) (h2 : decide (x.kind = 2) = false) (h3 : decide (x.kind = 3) = false) : zas Tryz.prog (om Tryz.prog) 92 [zag m, zad s, zr9 x] ⟨0, []⟩ = some (.bool (zme m s x), ⟨0, []⟩) := by
 have hF := zfn m s hc x.value ho.v
 have hA := zem x.addr
 have hC := zem x.cond
 simp only [zag, zae, zad, zaf, zah] at hF hA hC
 rw [zbr]
 rw [zxk _ _ (by simp)]
 cases h4 : decide (x.kind = 4) with
 | false => simp (maxSteps := 1000000) -implicitDefEqProofs only [↓reduceIte, ↓cond_true, ↓cond_false, sr1, sr2, kA, seval, d92, zoz, zo0, n92, zo9, zpa, zpb, zag, zae, zad, h1, h2, h3, h4, zme]
 | true => simp (maxSteps := 1000000) -implicitDefEqProofs only [↓reduceIte, ↓cond_true, ↓cond_false, sr1, sr2, kA, seval, d92, zoz, zo0, n92, zo9, zpa, zpb, zag, zae, zad, h1, h2, h3, h4, hF, hA, hC, zme, Bool.and_assoc]
theorem yapg (m : MMach) (s : MInstr) (hc : Ctx8 m s) (x : MEff) (ho : XOk x) (h1 : decide (x.kind = 1) = false) (h2 : decide (x.kind = 2) = false) (h3 : decide (x.kind = 3) = true) : zas Tryz.prog (om Tryz.prog) 92 [zag m, zad s, zr9 x] ⟨0, []⟩ = some (.bool (zme m s x), ⟨0, []⟩) := by
 have hF := zfn m s hc x.value ho.v
 have hG := zfn m s hc x.cond ho.c
 have hA := zem x.addr
 have hC := zem x.cond
 simp only [zag, zae, zad, zaf, zah] at hF hG hA hC
 rw [zbr]
 rw [zxk _ _ (by simp)]
 simp (maxSteps := 1000000) -implicitDefEqProofs only [↓reduceIte, ↓cond_true, ↓cond_false, sr1, sr2, kA, seval, d92, zoz, zo0, n92, zo9, zpa, zpb, zag, zae, zad, h1, h2, h3, hF, hG, hA, hC, zme, Bool.and_assoc]
theorem yapf (m : MMach) (s : MInstr) (hc : Ctx8 m s) (x : MEff) (ho : XOk x) (h1 : decide (x.kind = 1) = false) (h2 : decide (x.kind = 2) = true) : zas Tryz.prog (om Tryz.prog) 92 [zag m, zad s, zr9 x] ⟨0, []⟩ = some (.bool (zme m s x), ⟨0, []⟩) := by
 have hF := zfn m s hc x.value ho.v
 have hG := zfn m s hc x.addr ho.a
 have hC := zem x.cond
 simp only [zag, zae, zad, zaf, zah] at hF hG hC
 rw [zbr]
 rw [zxk _ _ (by simp)]
 simp (maxSteps := 1000000) -implicitDefEqProofs only [↓reduceIte, ↓cond_true, ↓cond_false, sr1, sr2, kA, seval, d92, zoz, zo0, n92, zo9, zpa, zpb, zag, zae, zad, h1, h2, hF, hG, hC, zme, zl5, Bool.and_assoc, Bool.or_assoc]
theorem yape (m : MMach) (s : MInstr) (hc : Ctx8 m s) (x : MEff) (ho : XOk x) (h1 : decide (x.kind = 1) = true) : zas Tryz.prog (om Tryz.prog) 92 [zag m, zad s, zr9 x] ⟨0, []⟩ = some (.bool (zme m s x), ⟨0, []⟩) := by
 have hF := zfn m s hc x.value ho.v
 have hA := zem x.addr
 have hC := zem x.cond
 have hr := hc.b.r
 have hl := hc.l
 simp only [zag, zae, zad, zaf, zah] at hF hA hC
 rw [zbr]
 rw [zxk _ _ (by simp)]
 cases d1 : decide (x.operand = -1) with
 | true =>
  cases d2 : inR x.reg 0 ((m.regs.length : Int) - 1) with
  | false => simp (maxSteps := 1000000) -implicitDefEqProofs only [↓reduceIte, ↓cond_true, ↓cond_false, sr1, sr2, kA, seval, d92, zoz, zo0, n92, zo9, zpa, zpb, zag, zae, zad, h1, hF, hA, hC, zap, d1, zam hr, d2, zme, Bool.and_assoc]
  | true =>
   obtain ⟨z0, z1⟩ := zc4 d2
   simp (maxSteps := 1000000) -implicitDefEqProofs only [↓reduceIte, ↓cond_true, ↓cond_false, sr1, sr2, kA, seval, d92, zoz, zo0, n92, zo9, zpa, zpb, zag, zae, zad, h1, hF, hA, hC, zap, d1, zam hr, d2, ix_z zab z0 z1, zgp, zct z1, zme, Bool.and_assoc, Bool.not_or, Bool.not_not]
 | false =>
  cases d3 : decide (x.reg = 0) with
  | false => simp (maxSteps := 1000000) -implicitDefEqProofs only [↓reduceIte, ↓cond_true, ↓cond_false, sr1, sr2, kA, seval, d92, zoz, zo0, n92, zo9, zpa, zpb, zag, zae, zad, h1, hF, hA, hC, zap, d1, d3, zme, Bool.and_assoc]
  | true =>
   cases d4 : inR x.operand 0 ((s.operands.length : Int) - 1) with
   | false => simp (maxSteps := 1000000) -implicitDefEqProofs only [↓reduceIte, ↓cond_true, ↓cond_false, sr1, sr2, kA, seval, d92, zoz, zo0, n92, zo9, zpa, zpb, zag, zae, zad, h1, hF, hA, hC, zap, d1, d3, zam hl, d4, zme, Bool.and_assoc]
   | true =>
    obtain ⟨z0, z1⟩ := zc4 d4
    cases d5 : decide (s.operands[x.operand.toNat].kind = 1) with
    | false => simp (maxSteps := 1000000) -implicitDefEqProofs only [↓reduceIte, ↓cond_true, ↓cond_false, sr1, sr2, kA, seval, d92, zoz, zo0, n92, zo9, zpa, zpb, zag, zae, zad, h1, hF, hA, hC, zap, d1, d3, zam hl, d4, ix_z zab z0 z1, zaq, d5, zlf, zi4 z1, zme, Bool.and_assoc]
    | true =>
     have hw := zut m s.operands[x.operand.toNat] (hc.w _ (List.getElem_mem z1))
     simp only [zag, zae, zaq] at hw
     simp (maxSteps := 1000000) -implicitDefEqProofs only [↓reduceIte, ↓cond_true, ↓cond_false, sr1, sr2, kA, seval, d92, zoz, zo0, n92, zo9, zpa, zpb, zag, zae, zad, h1, hF, hA, hC, zap, d1, d3, zam hl, d4, ix_z zab z0 z1, zaq, d5, hw, zlf, zi4 z1, zme, Bool.and_assoc, Bool.not_or, Bool.not_not]
theorem yad9 (m : MMach) (s : MInstr) (hc : Ctx8 m s) (x : MEff) (ho : XOk x) : zas Tryz.prog (om Tryz.prog) 92 [zag m, zad s, zr9 x] ⟨0, []⟩ = some (.bool (zme m s x), ⟨0, []⟩) := by
 cases h1 : decide (x.kind = 1) with
 | true => exact yape m s hc x ho h1
 | false =>
  cases h2 : decide (x.kind = 2) with
  | true => exact yapf m s hc x ho h1 h2
  | false =>
   cases h3 : decide (x.kind = 3) with
   | true => exact yapg m s hc x ho h1 h2 h3
   | false => exact yaph m s hc x ho h1 h2 h3
structure JOk (s : MInstr) : Prop where
 i : IOk s
 x : ∀ x ∈ s.effects, XOk x
 m0 : 0 ≤ s.mask
 m1 : s.mask < 2 ^ 64
 a0 : 0 ≤ s.mat
 a1 : s.mat < 2 ^ 64
def matI (s : MInstr) (b : Nat) : Bool := !decide (bitS s.mask b < bitS s.mat b)
theorem zz4 (m : MMach) (s : MInstr) (hs : JOk s) : ∀ b : Nat, b ≤ 64 → lim (some [2, 3]) 0 (blk 0 (om Tryz.prog ⟨67, none⟩ 0 (.loop (lpb Tryz.f67 0)) ⟨⟨123, [(2, .ptr 0 0), (3, .ptr 1 0), (5, .int .i64 b)]⟩, [], miH m s⟩)) =
  bif zb0 (matI s) b 64 then some (.normal, ⟨⟨123, [(2, .ptr 0 0), (3, .ptr 1 0)]⟩, [], miH m s⟩) else some (.ret, ⟨⟨123, [(4, .bool false)]⟩, [], ⟨0, []⟩⟩) := by
 refine zbl ?_ (fun b h ih => ?_) <;> rw [zac]
 ·simp (maxSteps := 1000000) -implicitDefEqProofs only [↓reduceIte, ↓cond_true, ↓cond_false, sr1, sr2, kA, seval, d67, zg2, zdo, n67, zhg, zhh, e67, za4, show ((64 : Nat) : Int) = 64 from rfl]
 ·have hm := zu8 b (by omega) s.mask hs.m0 hs.m1
  have ha := zu8 b (by omega) s.mat hs.a0 hs.a1
  have hd : decide ((b : Int) < 64) = true := decide_eq_true (by omega)
  rw [zbq h]
  cases hx : matI s b with
  | true =>
   have hx' : decide (bitS s.mask b < bitS s.mat b) = false := by unfold matI at hx; simpa using hx
   simp (maxSteps := 1000000) -implicitDefEqProofs only [↓reduceIte, ↓cond_true, ↓cond_false, sr1, sr2, kA, seval, d67, zg2, zdo, n67, zhg, zhh, e67, hd, wi_nat (show b < 2 ^ 62 by omega), hm, ha, hx', ih]
  | false =>
   have hx' : decide (bitS s.mask b < bitS s.mat b) = true := by unfold matI at hx; simpa using hx
   simp (maxSteps := 1000000) -implicitDefEqProofs only [↓reduceIte, ↓cond_true, ↓cond_false, sr1, sr2, kA, seval, d67, zg2, zdo, n67, zhg, zhh, e67, hd, hm, ha, hx']
def opI (m : MMach) (s : MInstr) (i : Nat) : Bool := atI s.operands (fun o => zdp m s i o) i
theorem zt2 {m : MMach} {s : MInstr} {i : Nat} (h : i < s.operands.length) : opI m s i = zdp m s i s.operands[i] := by
 simp only [opI, atI, List.getElem?_eq_getElem h]
theorem zz5 (m : MMach) (hB : Bd m) (s : MInstr) (hs : JOk s) : ∀ i, i ≤ s.operands.length → lim (some [2, 3]) 0 (blk 2 (om Tryz.prog ⟨67, none⟩ 0 (.loop (lpb Tryz.f67 1)) ⟨⟨123, [(2, .ptr 0 0), (3, .ptr 1 0), (6, .int .i64 i)]⟩, [], miH m s⟩)) =
  bif zb0 (opI m s) i s.operands.length then some (.normal, ⟨⟨123, [(2, .ptr 0 0), (3, .ptr 1 0)]⟩, [], miH m s⟩) else some (.ret, ⟨⟨123, [(4, .bool false)]⟩, [], ⟨0, []⟩⟩) := by
 have hl := hs.i.o
 refine zbl ?_ (fun i h ih => ?_) <;> rw [zac]
 ·simp (maxSteps := 1000000) -implicitDefEqProofs only [↓reduceIte, ↓cond_true, ↓cond_false, sr1, sr2, kA, seval, d67, zg2, zdo, n67, zhg, zhh, e67, za4]
 ·have hO := zri m hB s (by omega) i h (hs.i.p _ (List.getElem_mem h)) (hs.i.n _ (List.getElem_mem h))
  simp only [zag, zae, zad] at hO
  rw [zbq h, zt2 h]
  cases hx : zdp m s i s.operands[i] with
  | true =>
   rw [hx] at hO
   simp (maxSteps := 1000000) -implicitDefEqProofs only [↓reduceIte, ↓cond_true, ↓cond_false, sr1, sr2, kA, seval, d67, zg2, zdo, n67, zhg, zhh, e67, dlt_t h, wi_nat (show i < 2 ^ 62 by omega), hO, ih]
  | false =>
   rw [hx] at hO
   simp (maxSteps := 1000000) -implicitDefEqProofs only [↓reduceIte, ↓cond_true, ↓cond_false, sr1, sr2, kA, seval, d67, zg2, zdo, n67, zhg, zhh, e67, dlt_t h, hO]
def cnF (k : Int) (c : Nat) (l : List MEff) : Nat := c + l.countP fun x => decide (x.kind = k)
def resI (m : MMach) (s : MInstr) (l : List MEff) (a b : Nat) : Rx :=
 bif l.all (zme m s) then some (.normal, ⟨⟨123, [(2, .ptr 0 0), (3, .ptr 1 0), (7, .int .i64 (cnF 3 a l)), (8, .int .i64 (cnF 4 b l))]⟩, [], miH m s⟩) else some (.ret, ⟨⟨123, [(4, .bool false)]⟩, [], ⟨0, []⟩⟩)
theorem zxn {k : Int} {c : Nat} {x : MEff} {l : List MEff} : cnF k c (x :: l) = cnF k (c + if x.kind = k then 1 else 0) l := by
 unfold cnF
 rw [List.countP_cons]
 by_cases h : x.kind = k <;> simp [h] <;> omega
theorem zz6 (m : MMach) (s : MInstr) (hs : JOk s) (hc : Ctx8 m s) : ∀ i, i ≤ s.effects.length → ∀ a b : Nat, a + (s.effects.length - i) ≤ 1000000 → b + (s.effects.length - i) ≤ 1000000 → lim (some [2, 3, 7, 8]) 0 (blk 4 (om Tryz.prog ⟨67, none⟩ 0 (.loop (lpb Tryz.f67 2)) ⟨⟨123, [(2, .ptr 0 0), (3, .ptr 1 0), (7, .int .i64 a), (8, .int .i64 b), (9, .int .i64 i)]⟩, [], miH m s⟩)) = resI m s (s.effects.drop i) a b := by
 have hl := hs.i.e
 refine zbl (fun a b ha hb => ?_) (fun i h ih a b ha hb => ?_) <;> rw [zac]
 ·simp (maxSteps := 1000000) -implicitDefEqProofs only [↓reduceIte, ↓cond_true, ↓cond_false, sr1, sr2, kA, seval, d67, zg2, zdo, n67, zhg, zhh, e67, List.drop_length, resI, cnF, List.countP_nil]
 ·have hE := yad9 m s hc s.effects[i] (hs.x _ (List.getElem_mem h))
  simp only [zag, zae, zad, zbr] at hE
  rw [List.drop_eq_getElem_cons h]
  have eR : ∀ a b : Nat, resI m s (s.effects[i] :: s.effects.drop (i + 1)) a b = bif zme m s s.effects[i] then resI m s (s.effects.drop (i + 1)) (a + if s.effects[i].kind = 3 then 1 else 0) (b + if s.effects[i].kind = 4 then 1 else 0) else some (.ret, ⟨⟨123, [(4, .bool false)]⟩, [], ⟨0, []⟩⟩) := fun a b => by
   unfold resI
   rw [List.all_cons, zxn, zxn]
   cases zme m s s.effects[i] <;> rfl
  rw [eR]
  cases hx : zme m s s.effects[i] with
  | false =>
   rw [hx] at hE
   simp (maxSteps := 1000000) -implicitDefEqProofs only [↓reduceIte, ↓cond_true, ↓cond_false, sr1, sr2, kA, seval, d67, zg2, zdo, n67, zhg, zhh, e67, dlt_t h, ix_sl zab h, zbr, hE]
  | true =>
   rw [hx] at hE
   cases h3 : decide (s.effects[i].kind = 3) with
   | true =>
    have h3' := of_decide_eq_true h3
    have h4 : decide (s.effects[i].kind = 4) = false := decide_eq_false (by omega)
    have h4' := of_decide_eq_false h4
    have L := ih (a + 1) b (by omega) (by omega)
    rw [if_pos h3', if_neg h4', Nat.add_zero]
    simp (maxSteps := 1000000) -implicitDefEqProofs only [↓reduceIte, ↓cond_true, ↓cond_false, sr1, sr2, kA, seval, d67, zg2, zdo, n67, zhg, zhh, e67, dlt_t h, wi_nat (show i < 2 ^ 62 by omega), wi_nat (show a < 2 ^ 62 by omega), ix_sl zab h, zbr, hE, h3, h4, L]
   | false =>
    have h3' := of_decide_eq_false h3
    cases h4 : decide (s.effects[i].kind = 4) with
    | true =>
     have h4' := of_decide_eq_true h4
     have L := ih a (b + 1) (by omega) (by omega)
     rw [if_neg h3', if_pos h4', Nat.add_zero]
     simp (maxSteps := 1000000) -implicitDefEqProofs only [↓reduceIte, ↓cond_true, ↓cond_false, sr1, sr2, kA, seval, d67, zg2, zdo, n67, zhg, zhh, e67, dlt_t h, wi_nat (show i < 2 ^ 62 by omega), wi_nat (show b < 2 ^ 62 by omega), ix_sl zab h, zbr, hE, h3, h4, L]
    | false =>
     have h4' := of_decide_eq_false h4
     have L := ih a b (by omega) (by omega)
     rw [if_neg h3', if_neg h4', Nat.add_zero, Nat.add_zero]
     simp (maxSteps := 1000000) -implicitDefEqProofs only [↓reduceIte, ↓cond_true, ↓cond_false, sr1, sr2, kA, seval, d67, zg2, zdo, n67, zhg, zhh, e67, dlt_t h, wi_nat (show i < 2 ^ 62 by omega), ix_sl zab h, zbr, hE, h3, h4, L]
def yai3 (m : MMach) (s : MInstr) : Bool := !(decide (1 < (zov 3 s : Int)) || (decide (0 < (zov 4 s : Int)) && decide (1 < (s.effects.length : Int)))) && (inR s.unit 0 ((m.units.length : Int) - 1) && (inR s.busy 1 15 && (inR s.latency 1 15 && (inR s.slots 0 2 && (decide (s.slots = 0) || decide ((zov 3 s : Int) = 1))))))
def zio (m : MMach) (s : MInstr) (W : Nat) : Bool := decide (s.mask / (2 ^ W : Nat) = 0) && (zb0 (matI s) 0 64 && (zb0 (opI m s) 0 s.operands.length && (zb0 (zgj s) 0 W && (s.effects.all (zme m s) && yai3 m s))))
theorem yaun {m : MMach} (h1 : 1 ≤ m.word) (h2 : m.word ≤ 4) {s : MInstr} (h : zb0 (opI m s) 0 s.operands.length = true) : PcOk s := by
 intro o ho p hp
 obtain ⟨i, hi, rfl⟩ := List.getElem_of_mem ho
 have hq := za5.1 h i (Nat.zero_le _) hi
 rw [zt2 hi] at hq
 simp only [zdp, Bool.and_eq_true] at hq
 have hk := List.all_eq_true.1 hq.1.2.2 p hp
 have e8 : IntKind.i64.wrap (8 * m.word) = 8 * m.word := zdr (by omega) (by omega)
 simp only [zge, e8, Bool.not_or, Bool.not_not, Bool.and_eq_true, inR, decide_eq_true_eq] at hk
 have e9 : IntKind.i64.wrap (8 * m.word - p.len) = 8 * m.word - p.len := zdr (by omega) (by omega)
 rw [e9] at hk
 omega
theorem yapj {m : MMach} (hb : zdc m = true) {s : MInstr} (h : zb0 (opI m s) 0 s.operands.length = true) : ∀ o ∈ s.operands, o.kind = 1 → zet m o := by
 intro o ho hk
 obtain ⟨i, hi, rfl⟩ := List.getElem_of_mem ho
 have hq := za5.1 h i (Nat.zero_le _) hi
 rw [zt2 hi] at hq
 simp only [zdp, zbx, Bool.and_eq_true, hk, decide_true, cond_true] at hq
 exact zu6 hb hq.2.2.1.1
theorem zwa (m : MMach) (hB : Bd m) (h1 : 1 ≤ m.word) (h2 : m.word ≤ 4) (hN : ∀ r ∈ m.regs, r.name.size < 1000000) (hb : zdc m = true) (s : MInstr) (hs : JOk s) (W : Nat) (hW : 8 * m.word = (W : Int)) : zas Tryz.prog (om Tryz.prog) 67 [zag m, zad s] ⟨0, []⟩ = some (.bool (zio m s W), ⟨0, []⟩) := by
 have e8 : IntKind.i64.wrap (8 * m.word) = (W : Int) := by rw [zdr (by omega) (by omega), hW]
 have hBl := yab0 W (by omega) s.mask hs.m0 hs.m1
 have L0 := zz4 m s hs 0 (Nat.zero_le _)
 have L1 := zz5 m hB s hs 0 (Nat.zero_le _)
 have hl := hs.i.o
 simp only [Int.natCast_zero, miH] at L0 L1
 unfold zio
 rw [yar8 _ _ (by simp)]
 cases c0 : decide (s.mask / (2 ^ W : Nat) = 0) with
 | false =>
  rw [c0] at hBl
  simp (maxSteps := 1000000) -implicitDefEqProofs only [↓reduceIte, ↓cond_true, ↓cond_false, sr1, sr2, kA, seval, d67, zg2, zdo, n67, zhg, zhh, e67, zag, zae, zad, e8, hBl]
 | true =>
  rw [c0] at hBl
  cases c1 : zb0 (matI s) 0 64 with
  | false =>
   rw [c1] at L0
   simp (maxSteps := 1000000) -implicitDefEqProofs only [↓reduceIte, ↓cond_true, ↓cond_false, sr1, sr2, kA, seval, d67, zg2, zdo, n67, zhg, zhh, e67, zag, zae, zad, e8, hBl, L0]
  | true =>
   rw [c1] at L0
   cases c2 : zb0 (opI m s) 0 s.operands.length with
   | false =>
    rw [c2] at L1
    simp (maxSteps := 1000000) -implicitDefEqProofs only [↓reduceIte, ↓cond_true, ↓cond_false, sr1, sr2, kA, seval, d67, zg2, zdo, n67, zhg, zhh, e67, zag, zae, zad, e8, hBl, L0, L1]
   | true =>
    rw [c2] at L1
    have hc : Ctx8 m s := ⟨hB, hN, by omega, yapj hb c2⟩
    have hA := yabv m s (yaun h1 h2 c2) hl hs.i.p hs.m0 hs.m1 W e8 (by omega)
    have L2 := zz6 m s hs hc 0 (Nat.zero_le _) 0 0 (by have := hs.i.e; omega) (by have := hs.i.e; omega)
    have e3 : cnF 3 0 s.effects = zov 3 s := by unfold cnF zov; omega
    have e4 : cnF 4 0 s.effects = zov 4 s := by unfold cnF zov; omega
    simp only [zag, zae, zad] at hA
    simp only [Int.natCast_zero, List.drop_zero, resI, miH, e3, e4] at L2
    cases c3 : zb0 (zgj s) 0 W with
    | false =>
     rw [c3] at hA
     simp (maxSteps := 1000000) -implicitDefEqProofs only [↓reduceIte, ↓cond_true, ↓cond_false, sr1, sr2, kA, seval, d67, zg2, zdo, n67, zhg, zhh, e67, zag, zae, zad, e8, hBl, L0, L1, hA]
    | true =>
     rw [c3] at hA
     cases c4 : s.effects.all (zme m s) with
     | false =>
      rw [c4] at L2
      simp (maxSteps := 1000000) -implicitDefEqProofs only [↓reduceIte, ↓cond_true, ↓cond_false, sr1, sr2, kA, seval, d67, zg2, zdo, n67, zhg, zhh, e67, zag, zae, zad, e8, hBl, L0, L1, hA, L2]
     | true =>
      rw [c4] at L2
      simp (maxSteps := 1000000) -implicitDefEqProofs only [↓reduceIte, ↓cond_true, ↓cond_false, sr1, sr2, kA, seval, d67, zg2, zdo, n67, zhg, zhh, e67, zag, zae, zad, e8, hBl, L0, L1, hA, L2, zap, zam hB.u, yai3, Bool.and_assoc]
structure NOk8 (m : MMach) : Prop where
 b : Bd m
 s : Sd m
 n : m.name.size < 2 ^ 62
 i : ∀ s ∈ m.instrs, JOk s
abbrev ciH (m : MMach) (s : MInstr) : Heap := ⟨2, [some (.cells 27 (zae m)), some (.cells 69 (zcq s))]⟩
theorem zwl (m : MMach) (hB : Bd m) (i : Nat) (hi : i < m.instrs.length) : ∀ k, k ≤ i → lim (some [1, 3]) 0 (blk 2 (om Tryz.prog ⟨30, none⟩ 0 (.loop (lpb Tryz.f30 1)) ⟨⟨80, [(1, .ptr 0 0), (3, .int .i64 i), (4, .ptr 1 0), (5, .int .i64 k)]⟩, [], ciH m m.instrs[i]⟩)) =
  bif zb0 (fun k => !eqN MInstr.name m.instrs i k) k i then some (.normal, ⟨⟨80, [(1, .ptr 0 0), (3, .int .i64 i)]⟩, [], zb2 m⟩) else some (.ret, ⟨⟨80, [(2, .int .i64 8)]⟩, [], ⟨0, []⟩⟩) := by
 have hu := hB.i
 refine zbl ?_ (fun k h ih => ?_) <;> rw [zac]
 ·simp (maxSteps := 1000000) -implicitDefEqProofs only [↓reduceIte, ↓cond_true, ↓cond_false, sr1, sr2, kA, seval, d30, zb1, n30, zdt, e30, za4]
 ·have hk : k < m.instrs.length := by omega
  rw [zch h, zjn hk hi]
  cases hn : decide (m.instrs[k].name = m.instrs[i].name) with
  | true => simp (maxSteps := 1000000) -implicitDefEqProofs only [↓reduceIte, ↓cond_true, ↓cond_false, sr1, sr2, kA, seval, d30, zb1, n30, zdt, e30, dlt_t h, wi_nat (show k < 2 ^ 62 by omega), ix_sl zab hk, zad, hn]
  | false => simp (maxSteps := 1000000) -implicitDefEqProofs only [↓reduceIte, ↓cond_true, ↓cond_false, sr1, sr2, kA, seval, d30, zb1, n30, zdt, e30, dlt_t h, wi_nat (show k < 2 ^ 62 by omega), ix_sl zab hk, zad, hn, ih]
theorem zwk (m : MMach) (hm : NOk8 m) (h1 : 1 ≤ m.word) (h2 : m.word ≤ 4) (hN : ∀ r ∈ m.regs, r.name.size < 1000000) (hb : zdc m = true) (W : Nat) (hW : 8 * m.word = (W : Int)) : ∀ i, i ≤ m.instrs.length → lim (some []) 0 (blk 0 (om Tryz.prog ⟨30, none⟩ 0 (.loop (lpb Tryz.f30 0)) ⟨⟨80, [(1, .ptr 0 0), (3, .int .i64 i)]⟩, [], zb2 m⟩)) =
  bif zb0 (zrn MInstr.name (fun _ s => zio m s W) m.instrs) i m.instrs.length then some (.normal, ⟨⟨80, []⟩, [], ⟨0, []⟩⟩) else some (.ret, ⟨⟨80, [(2, .int .i64 8)]⟩, [], ⟨0, []⟩⟩) := by
 have hu := hm.b.i
 refine zbl ?_ (fun i h ih => ?_) <;> rw [zac]
 ·simp (maxSteps := 1000000) -implicitDefEqProofs only [↓reduceIte, ↓cond_true, ↓cond_false, sr1, sr2, kA, seval, d30, zb1, n30, zdt, e30, za4]
 ·have L := zwl m hm.b i h 0 (Nat.zero_le _)
  have ej : zb0 (fun k => !eqN MInstr.name m.instrs i k) 0 i = ztv MInstr.name m.instrs i := rfl
  rw [ej] at L
  simp only [Int.natCast_zero] at L
  have hx := List.getElem_mem h
  have hn := zc8 m.instrs[i].name (hm.s.i _ hx)
  have hI := zwa m hm.b h1 h2 hN hb m.instrs[i] (hm.i _ hx) W hW
  simp only [zag, zae, zad] at hI
  rw [zbq h, zk6 h]
  cases c1 : za3 m.instrs[i].name with
  | false => simp (maxSteps := 1000000) -implicitDefEqProofs only [↓reduceIte, ↓cond_true, ↓cond_false, sr1, sr2, kA, seval, d30, zb1, n30, zdt, e30, dlt_t h, ix_sl zab h, zad, hn, c1]
  | true =>
   cases c2 : zio m m.instrs[i] W with
   | false =>
    rw [c2] at hI
    simp (maxSteps := 1000000) -implicitDefEqProofs only [↓reduceIte, ↓cond_true, ↓cond_false, sr1, sr2, kA, seval, d30, zb1, n30, zdt, e30, dlt_t h, ix_sl zab h, zad, hn, c1, hI]
   | true =>
    rw [c2] at hI
    cases c3 : ztv MInstr.name m.instrs i with
    | false =>
     rw [c3] at L
     simp (maxSteps := 1000000) -implicitDefEqProofs only [↓reduceIte, ↓cond_true, ↓cond_false, sr1, sr2, kA, seval, d30, zb1, n30, zdt, e30, dlt_t h, ix_sl zab h, zad, hn, c1, hI, L]
    | true =>
     rw [c3] at L
     simp (maxSteps := 1000000) -implicitDefEqProofs only [↓reduceIte, ↓cond_true, ↓cond_false, sr1, sr2, kA, seval, d30, zb1, n30, zdt, e30, dlt_t h, wi_nat (show i < 2 ^ 62 by omega), ix_sl zab h, zad, hn, c1, hI, L, ih]
def yah8 (m : MMach) : Int := bif !zhq m then 4 else bif preB m && zb0 (zrn MInstr.name (fun _ s => zio m s (8 * m.word).toNat) m.instrs) 0 m.instrs.length then 0 else 8
theorem zkh (m : MMach) (hm : NOk8 m) : zas Tryz.prog (om Tryz.prog) 30 [zag m] ⟨0, []⟩ = some (.int .i64 (yah8 m), ⟨0, []⟩) := by
 have hs := zw1 m hm.b
 rw [zuu] at hs
 have hn := zc8 m.name hm.n
 have hR := zz8 m hm.b hm.s
 have hBk := zv9 m hm.b hm.s
 have hU := zwd m hm.b hm.s
 simp only [zag, zae] at hs hR hBk hU
 unfold yah8
 rw [yarm _ _ (by simp)]
 cases hc : zhq m with
 | false => simp (maxSteps := 1000000) -implicitDefEqProofs only [↓reduceIte, ↓cond_true, ↓cond_false, sr1, sr2, kA, seval, d30, zb1, n30, zdt, e30, zag, zae, hs, hc]
 | true =>
 unfold preB
 cases q1 : za3 m.name with
 | false => simp (maxSteps := 1000000) -implicitDefEqProofs only [↓reduceIte, ↓cond_true, ↓cond_false, sr1, sr2, kA, seval, d30, zb1, n30, zdt, e30, zag, zae, hs, hc, hn, zap, q1]
 | true =>
 cases q2 : inR m.word 1 4 with
 | false => simp (maxSteps := 1000000) -implicitDefEqProofs only [↓reduceIte, ↓cond_true, ↓cond_false, sr1, sr2, kA, seval, d30, zb1, n30, zdt, e30, zag, zae, hs, hc, hn, zap, q1, q2]
 | true =>
 have hw : 1 ≤ m.word ∧ m.word ≤ 4 := by simpa [inR] using q2
 cases q4 : zie m with
 | false =>
  cases qa : decide (m.address = 16) with
  | true => simp (maxSteps := 1000000) -implicitDefEqProofs only [↓reduceIte, ↓cond_true, ↓cond_false, sr1, sr2, kA, seval, d30, zb1, n30, zdt, e30, zag, zae, hs, hc, hn, zap, q1, q2, qa, hR, q4]
  | false =>
   cases qb : decide (m.address = 32) with
   | true => simp (maxSteps := 1000000) -implicitDefEqProofs only [↓reduceIte, ↓cond_true, ↓cond_false, sr1, sr2, kA, seval, d30, zb1, n30, zdt, e30, zag, zae, hs, hc, hn, zap, q1, q2, qa, qb, hR, q4]
   | false => simp (maxSteps := 1000000) -implicitDefEqProofs only [↓reduceIte, ↓cond_true, ↓cond_false, sr1, sr2, kA, seval, d30, zb1, n30, zdt, e30, zag, zae, hs, hc, hn, zap, q1, q2, qa, qb]
 | true =>
 cases q5 : zdc m with
 | false =>
  cases qa : decide (m.address = 16) with
  | true => simp (maxSteps := 1000000) -implicitDefEqProofs only [↓reduceIte, ↓cond_true, ↓cond_false, sr1, sr2, kA, seval, d30, zb1, n30, zdt, e30, zag, zae, hs, hc, hn, zap, q1, q2, qa, hR, q4, hBk, q5]
  | false =>
   cases qb : decide (m.address = 32) with
   | true => simp (maxSteps := 1000000) -implicitDefEqProofs only [↓reduceIte, ↓cond_true, ↓cond_false, sr1, sr2, kA, seval, d30, zb1, n30, zdt, e30, zag, zae, hs, hc, hn, zap, q1, q2, qa, qb, hR, q4, hBk, q5]
   | false => simp (maxSteps := 1000000) -implicitDefEqProofs only [↓reduceIte, ↓cond_true, ↓cond_false, sr1, sr2, kA, seval, d30, zb1, n30, zdt, e30, zag, zae, hs, hc, hn, zap, q1, q2, qa, qb]
 | true =>
 cases q6 : goodB.unitsB m with
 | false =>
  cases qa : decide (m.address = 16) with
  | true => simp (maxSteps := 1000000) -implicitDefEqProofs only [↓reduceIte, ↓cond_true, ↓cond_false, sr1, sr2, kA, seval, d30, zb1, n30, zdt, e30, zag, zae, hs, hc, hn, zap, q1, q2, qa, hR, q4, hBk, q5, hU, q6]
  | false =>
   cases qb : decide (m.address = 32) with
   | true => simp (maxSteps := 1000000) -implicitDefEqProofs only [↓reduceIte, ↓cond_true, ↓cond_false, sr1, sr2, kA, seval, d30, zb1, n30, zdt, e30, zag, zae, hs, hc, hn, zap, q1, q2, qa, qb, hR, q4, hBk, q5, hU, q6]
   | false => simp (maxSteps := 1000000) -implicitDefEqProofs only [↓reduceIte, ↓cond_true, ↓cond_false, sr1, sr2, kA, seval, d30, zb1, n30, zdt, e30, zag, zae, hs, hc, hn, zap, q1, q2, qa, qb]
 | true =>
 have hN : ∀ r ∈ m.regs, r.name.size < 1000000 := fun r hx => by
  have q4' := q4
  unfold zie at q4'
  rw [Bool.and_eq_true] at q4'
  have := ztu (zft q4'.2 hx).1
  omega
 have L := zwk m hm hw.1 hw.2 hN q5 (8 * m.word).toNat (by omega) 0 (Nat.zero_le _)
 simp only [Int.natCast_zero] at L
 generalize zb0 (zrn MInstr.name (fun _ s => zio m s (8 * m.word).toNat) m.instrs) 0 m.instrs.length = A at L ⊢
 cases qa : decide (m.address = 16) with
 | true =>
  cases A with
  | true => simp (maxSteps := 1000000) -implicitDefEqProofs only [↓reduceIte, ↓cond_true, ↓cond_false, sr1, sr2, kA, seval, d30, zb1, n30, zdt, e30, zag, zae, hs, hc, hn, zap, q1, q2, qa, hR, q4, hBk, q5, hU, q6, L]
  | false => simp (maxSteps := 1000000) -implicitDefEqProofs only [↓reduceIte, ↓cond_true, ↓cond_false, sr1, sr2, kA, seval, d30, zb1, n30, zdt, e30, zag, zae, hs, hc, hn, zap, q1, q2, qa, hR, q4, hBk, q5, hU, q6, L]
 | false =>
  cases qb : decide (m.address = 32) with
  | true =>
   cases A with
   | true => simp (maxSteps := 1000000) -implicitDefEqProofs only [↓reduceIte, ↓cond_true, ↓cond_false, sr1, sr2, kA, seval, d30, zb1, n30, zdt, e30, zag, zae, hs, hc, hn, zap, q1, q2, qa, qb, hR, q4, hBk, q5, hU, q6, L]
   | false => simp (maxSteps := 1000000) -implicitDefEqProofs only [↓reduceIte, ↓cond_true, ↓cond_false, sr1, sr2, kA, seval, d30, zb1, n30, zdt, e30, zag, zae, hs, hc, hn, zap, q1, q2, qa, qb, hR, q4, hBk, q5, hU, q6, L]
  | false => simp (maxSteps := 1000000) -implicitDefEqProofs only [↓reduceIte, ↓cond_true, ↓cond_false, sr1, sr2, kA, seval, d30, zb1, n30, zdt, e30, zag, zae, hs, hc, hn, zap, q1, q2, qa, qb]
set_option maxRecDepth 10000
theorem yaqa (a b : Int) (i : Nat) : tb (zku a b) i = (tb a i && !tb b i) := by
 unfold tb zku
 rw [zvd, BitVec.getLsbD_and, BitVec.getLsbD_not]
 by_cases hi : i < 64
 ·simp [hi]
 ·have : (BitVec.ofInt 64 a).getLsbD i = false := BitVec.getLsbD_of_ge _ _ (by omega)
  simp [this]
theorem zu5 (a b : Int) : decide (zku a b = 0) = true ↔ ∀ i, tb a i = true → tb b i = true := by
 have e : zku a b = (((BitVec.ofInt 64 a &&& ~~~ BitVec.ofInt 64 b).toNat : Nat) : Int) := by
  unfold zku; exact zmv _ (BitVec.isLt _)
 rw [decide_eq_true_iff]
 constructor
 ·intro h i hi
  have := yaqa a b i
  rw [h, tb_0, hi] at this
  simpa using this.symm
 ·intro h
  have h0 : (BitVec.ofInt 64 a &&& ~~~ BitVec.ofInt 64 b) = 0 := by
   apply BitVec.eq_of_getLsbD_eq
   intro i hi
   rw [BitVec.getLsbD_and, BitVec.getLsbD_not]
   have := h i
   unfold tb at this
   simp [hi]
   exact this
  rw [e, h0]; rfl
theorem yaz6 {a : Int} {i : Nat} (h : tb a i = true) : i < 64 := by
 by_cases hi : i < 64
 ·exact hi
 ·unfold tb at h
  rw [BitVec.getLsbD_of_ge _ _ (by omega)] at h; cases h
theorem zwv {n : Nat} (h1 : 1 ≤ n) (h2 : n ≤ 64) (i : Nat) : tb (zi6 (n : Int)) i = decide (i < n) := by
 rw [zya h1 h2, zqd (Nat.lt_of_lt_of_le (Nat.sub_lt (Nat.two_pow_pos n) (by decide)) (Nat.pow_le_pow_right (by decide) h2)), Nat.testBit_two_pow_sub_one]
theorem zxe {x : Int} (h0 : 0 ≤ x) (hx : x < 2 ^ 64) {W : Nat} (h1 : 1 ≤ W) (h2 : W ≤ 64) : decide (x / (2 ^ W : Nat) = 0) = decide (zku x (zi6 (W : Int)) = 0) := by
 obtain ⟨n, rfl⟩ := Int.eq_ofNat_of_zero_le h0
 have hn : n < 2 ^ 64 := by omega
 rw [Bool.eq_iff_iff, zu5, decide_eq_true_iff]
 have e : ((n : Int) / ((2 ^ W : Nat) : Int) = 0) ↔ n < 2 ^ W := by
  have p := Nat.two_pow_pos W
  constructor
  ·intro h
   have h' : ((n / 2 ^ W : Nat) : Int) = 0 := by rw [Int.natCast_ediv]; exact h
   have h'' : n / 2 ^ W = 0 := by omega
   rcases Nat.div_eq_zero_iff.1 h'' with h | h
   ·omega
   ·exact h
  ·intro h
   have : n / 2 ^ W = 0 := Nat.div_eq_of_lt h
   rw [← Int.natCast_ediv, this]; rfl
 rw [e]
 constructor
 ·intro h i hi
  rw [zqd hn] at hi
  rw [zwv h1 h2]
  by_cases q : i < W
  ·exact decide_eq_true q
  ·have : n < 2 ^ i := Nat.lt_of_lt_of_le h (Nat.pow_le_pow_right (by decide) (by omega))
   rw [Nat.testBit_lt_two_pow this] at hi; cases hi
 ·intro h
  refine Nat.lt_pow_two_of_testBit n fun i hi => ?_
  cases q : n.testBit i with
  | false => rfl
  | true =>
   have := h i (by rw [zqd hn]; exact q)
   rw [zwv h1 h2] at this
   have := of_decide_eq_true this
   omega
theorem yat3 {s : MInstr} (hs : JOk s) : zb0 (matI s) 0 64 = decide (zku s.mat s.mask = 0) := by
 rw [Bool.eq_iff_iff, zu5, za5]
 have e : ∀ b, matI s b = (tb s.mask b || !tb s.mat b) := fun b => by
  unfold matI
  rw [zu7 hs.m0 hs.m1, zu7 hs.a0 hs.a1]
  cases tb s.mask b <;> cases tb s.mat b <;> rfl
 constructor
 ·intro h i hi
  have := h i (Nat.zero_le _) (yaz6 hi)
  rw [e, hi] at this
  simpa using this
 ·intro h i _ _
  rw [e]
  cases q : tb s.mat i with
  | false => simp
  | true => rw [h i q]; rfl
theorem yaua {α : Type} {nm : α → ByteArray} {us : List α} {j : Nat} (hj : j < us.length) : newI nm us j = ztv nm us j := by
 simp only [newI, ztv, List.getElem?_eq_getElem hj]
 rw [Bool.eq_iff_iff, za5, za5]
 constructor
 ·intro h k _ hk
  have := h k (Nat.zero_le _) hk
  rw [List.getElem?_eq_getElem (show k < us.length by omega)] at this
  rw [zjn (show k < us.length by omega) hj]
  exact this
 ·intro h k _ hk
  have := h k (Nat.zero_le _) hk
  rw [zjn (show k < us.length by omega) hj] at this
  rw [List.getElem?_eq_getElem (show k < us.length by omega)]
  exact this
theorem yaiz {w : Int} {p : MPiece} : (!zge w p) = zcp w p := by
 unfold zge zcp
 rw [Bool.not_or, Bool.not_not, Bool.not_not]; rfl
theorem yafh {m : MMach} {s : MInstr} : zy6 MOpd.name (opQ m s) 0 s.operands [pcN] = zb0 (opI m s) 0 s.operands.length := by
 rw [zy7, Bool.eq_iff_iff, za5, za5]
 have key : ∀ i, i < s.operands.length → (atI s.operands (fun u => za3 u.name && opQ m s i u && !zlm [pcN] u.name) i && newI MOpd.name s.operands i) = opI m s i := by
  intro i hi
  rw [zt2 hi, yaua hi]
  simp only [atI, List.getElem?_eq_getElem hi, zdp, opQ, zkb, zlm, List.any_cons, List.any_nil, Bool.or_false]
  have : (s.operands[i].pieces.all fun x => !zge m.word x) = s.operands[i].pieces.all (zcp m.word) := by
   congr 1; funext p; exact yaiz
  rw [this]
  generalize za3 s.operands[i].name = a
  generalize decide (s.operands[i].name = pcN) = b
  generalize s.operands[i].pieces.all (zcp m.word) = c
  generalize zbx m s i s.operands[i] = d
  generalize ztv MOpd.name s.operands i = e
  cases a <;> cases b <;> cases c <;> cases d <;> cases e <;> rfl
 exact ⟨fun h j hj hn => by rw [← key j hn]; exact h j hj hn, fun h j hj hn => by rw [key j hn]; exact h j hj hn⟩
theorem zvk {l : List MPiece} {b : Nat} (h : zfl l b ≠ 0) : ∃ p ∈ l, pin p b = true := by
 have : 0 < l.countP fun p => pin p b := by unfold zfl at h; omega
 rw [List.countP_pos_iff] at this
 exact this
theorem yaut {m : MMach} (h1 : 1 ≤ m.word) (h2 : m.word ≤ 4) {s : MInstr} (hs : JOk s) {W : Nat} (hW : 8 * m.word = (W : Int)) (hb : decide (s.mask / (2 ^ W : Nat) = 0) = true) :
  (zb0 (opI m s) 0 s.operands.length && zb0 (zgj s) 0 W) = (zwf m s 0 s.operands true [pcN] s.mask).1 := by
 rw [Bool.eq_iff_iff, Bool.and_eq_true, zh4 h1 h2, yafh]
 simp only [true_and]
 constructor
 ·rintro ⟨ha, hp⟩
  refine ⟨ha, fun b => ?_⟩
  by_cases hbW : b < W
  ·have := za5.1 hp b (Nat.zero_le _) hbW
   unfold zgj at this
   simp only [Bool.not_eq_true', decide_eq_false_iff_not] at this
   omega
  ·have hm : tb s.mask b = false := by
    cases q : tb s.mask b with
    | false => rfl
    | true =>
     rw [zxe hs.m0 hs.m1 (by omega) (by omega), zu5] at hb
     have := hb b q
     rw [zwv (by omega) (by omega)] at this
     have := of_decide_eq_true this
     omega
   have hc : zfl (zw6 s.operands) b = 0 := by
    by_cases q : zfl (zw6 s.operands) b = 0
    ·exact q
    ·obtain ⟨p, hp1, hp2⟩ := zvk q
     obtain ⟨o, ho, hpo⟩ := List.mem_flatMap.1 hp1
     obtain ⟨i, hi, rfl⟩ := List.getElem_of_mem ho
     have hq := za5.1 ha i (Nat.zero_le _) hi
     rw [zt2 hi] at hq
     simp only [zdp, Bool.and_eq_true] at hq
     have hk := List.all_eq_true.1 hq.1.2.2 p hpo
     have e8 : IntKind.i64.wrap (8 * m.word) = 8 * m.word := zdr (by omega) (by omega)
     simp only [zge, e8, Bool.not_or, Bool.not_not, Bool.and_eq_true, inR, decide_eq_true_eq] at hk
     have e9 : IntKind.i64.wrap (8 * m.word - p.len) = 8 * m.word - p.len := zdr (by omega) (by omega)
     rw [e9] at hk
     simp only [pin, Bool.and_eq_true, decide_eq_true_eq] at hp2
     omega
   rw [hm, hc]; decide
 ·rintro ⟨ha, hp⟩
  refine ⟨ha, za5.2 fun b _ hbW => ?_⟩
  have := hp b
  unfold zgj
  simp only [Bool.not_eq_true', decide_eq_false_iff_not]
  omega
theorem yaps {m : MMach} {s : MInstr} : yai3 m s = zpd m s := by
 unfold yai3 zpd
 have hle : zov 4 s ≤ s.effects.length := List.countP_le_length
 have e : (!(decide (1 < (zov 3 s : Int)) || (decide (0 < (zov 4 s : Int)) && decide (1 < (s.effects.length : Int))))) = (decide ((zov 3 s : Int) ≤ 1) && (decide ((zov 4 s : Int) = 0) || decide ((s.effects.length : Int) = 1))) := by
  rw [Bool.eq_iff_iff]
  simp only [Bool.not_eq_true', Bool.or_eq_false_iff, Bool.and_eq_false_iff, decide_eq_false_iff_not, Bool.and_eq_true, decide_eq_true_eq, Bool.or_eq_true]
  omega
 rw [e, Bool.and_assoc]
theorem yakc {α : Type} {nm : α → ByteArray} {q : Nat → α → Bool} {us : List α} {acc : List ByteArray} (h : zy6 nm q 0 us acc = true) : Dis nm us ∧ ∀ u ∈ us, zlm acc (nm u) = false := by
 rw [zh8] at h
 constructor
 ·unfold Dis
  rw [List.pairwise_iff_getElem]
  intro i j hi hj hij
  obtain ⟨_, _, _, h4⟩ := h j us[j] (List.getElem?_eq_getElem hj)
  exact h4 i us[i] hij (List.getElem?_eq_getElem hi)
 ·intro u hu
  obtain ⟨i, hi, rfl⟩ := List.getElem_of_mem hu
  exact (h i us[i] (List.getElem?_eq_getElem hi)).2.2.1
theorem yaht {m : MMach} (h1 : 1 ≤ m.word) (h2 : m.word ≤ 4) (hr : zie m = true) {s : MInstr} (hs : JOk s) {W : Nat} (hW : 8 * m.word = (W : Int)) : zio m s W = zfq m s := by
 have e8 : IntKind.i64.wrap (8 * m.word) = (W : Int) := by rw [zdr (by omega) (by omega), hW]
 unfold zio zfq
 rw [e8, ← zxe hs.m0 hs.m1 (by omega) (by omega), yat3 hs]
 cases hb : decide (s.mask / (2 ^ W : Nat) = 0) with
 | false => rfl
 | true =>
  have ho := yaut h1 h2 hs hW hb
  cases hm : decide (zku s.mat s.mask = 0) with
  | false => rfl
  | true =>
   simp only [Bool.true_and]
   rw [← ho]
   cases ha : zb0 (opI m s) 0 s.operands.length with
   | false => rfl
   | true =>
    cases hp : zb0 (zgj s) 0 W with
    | false => rfl
    | true =>
     simp only [Bool.true_and]
     rw [yaps]
     congr 1
     rw [← yafh] at ha
     obtain ⟨d1, d2⟩ := yakc ha
     have hr' := hr
     unfold zie at hr'
     rw [Bool.and_eq_true, zdg (i := 0)] at hr'
     obtain ⟨d3, _⟩ := yakc hr'.2
     have hpc : ∀ o ∈ s.operands, o.name ≠ pcN := fun o ho e => by
      have := d2 o ho
      rw [zfp] at this
      exact this pcN (by simp) e.symm
     have key : ∀ x ∈ s.effects, zme m s x = zow m s (zzc m s) x := fun x hx =>
      yas4 m s x ⟨(hs.x x hx).a.k, (hs.x x hx).v.k, (hs.x x hx).c.k⟩ d1 hpc d3
     rw [Bool.eq_iff_iff, List.all_eq_true, List.all_eq_true]
     exact ⟨fun h x hx => by rw [← key x hx]; exact h x hx, fun h x hx => by rw [key x hx]; exact h x hx⟩
theorem yad1 (m : MMach) (hm : NOk8 m) : yah8 m = zb3 m := by
 unfold yah8 zb3
 rw [zni]
 cases hp : preB m with
 | false => rfl
 | true =>
  have hp2 := hp
  unfold preB at hp2
  simp only [Bool.and_eq_true] at hp2
  obtain ⟨⟨q1, q2, q3⟩, q4, q5, q6⟩ := hp2
  have hw : 1 ≤ m.word ∧ m.word ≤ 4 := by simpa [inR] using q2
  simp only [Bool.true_and]
  have e : zb0 (zrn MInstr.name (fun _ s => zio m s (8 * m.word).toNat) m.instrs) 0 m.instrs.length = zg8 m := by
   unfold zg8
   rw [zdg (i := 0), ← zmp, Bool.eq_iff_iff, za5, za5]
   have key : ∀ j, j < m.instrs.length → zrn MInstr.name (fun _ s => zio m s (8 * m.word).toNat) m.instrs j = zrn MInstr.name (fun _ => zfq m) m.instrs j := by
    intro j hj
    rw [zk6 hj, zk6 hj]
    congr 2
    exact yaht hw.1 hw.2 q4 (hm.i _ (List.getElem_mem hj)) (by omega)
   exact ⟨fun h j hj hn => by rw [← key j hn]; exact h j hj hn, fun h j hj hn => by rw [key j hn]; exact h j hj hn⟩
  rw [e]
structure OpF (m : MMach) (i : Nat) (o : MOpd) : Prop where
 k : o.kind = 1 ∨ o.kind = 2 ∨ o.kind = 3 ∨ o.kind = 4
 b : o.kind = 1 → zet m o
 z : o.kind = 1 → o.tied = -1 ∨ (0 ≤ o.tied ∧ o.tied < i)
 n : o.kind ≠ 1 → 0 ≤ o.scale ∧ o.scale ≤ 3 ∧ 1 ≤ zao o ∧ zao o + o.scale ≤ 32 ∧ o.bank = 0 ∧ o.tied = -1
structure InF (m : MMach) (s : MInstr) : Prop where
 u : 0 ≤ s.unit ∧ s.unit.toNat < m.units.length
 b : 1 ≤ s.busy ∧ s.busy ≤ 15
 l : 1 ≤ s.latency ∧ s.latency ≤ 15
 o : ∀ i (h : i < s.operands.length), OpF m i s.operands[i]
 n : s.operands.length ≤ 4
 e : s.effects.length ≤ 4
structure VM (m : MMach) : Prop where
 w : 1 ≤ m.word ∧ m.word ≤ 4
 a : m.address = 16 ∨ m.address = 32
 r : 0 < m.regs.length ∧ m.regs.length ≤ 64
 u : 0 < m.units.length ∧ m.units.length ≤ 8
 i : m.instrs.length ≤ 64
 c : ∀ x ∈ m.units, 1 ≤ x.count ∧ x.count ≤ 4
 s : ∀ s ∈ m.instrs, InF m s
theorem yazm {m : MMach} {s : MInstr} {i : Nat} {o : MOpd} (hb : zdc m = true) (ha : m.address = 16 ∨ m.address = 32) (hi : i < 1000000) (hf : 0 ≤ zao o ∧ zao o < 2 ^ 40) (h : zbx m s i o = true) : OpF m i o := by
 unfold zbx at h
 cases h1 : decide (o.kind = 1) with
 | true =>
  have k1 := of_decide_eq_true h1
  rw [h1] at h
  simp only [cond_true, Bool.and_eq_true, decide_eq_true_eq] at h
  refine ⟨.inl k1, fun _ => zu6 hb h.1.1, fun _ => ?_, fun q => absurd k1 q⟩
  cases ht : decide (o.tied = -1) with
  | true => exact .inl (of_decide_eq_true ht)
  | false =>
   rw [ht] at h
   have h2 := h.2
   simp only [cond_false, Bool.and_eq_true, ziv, inR, decide_eq_true_eq] at h2
   have e : IntKind.i64.wrap ((i : Int) - 1) = (i : Int) - 1 := zdr (by omega) (by omega)
   rw [e] at h2
   exact .inr ⟨h2.1.1.1, by omega⟩
 | false =>
  have k1 := of_decide_eq_false h1
  rw [h1] at h
  simp only [cond_false] at h
  cases h2 : (decide (o.kind = 2) || (decide (o.kind = 3) || decide (o.kind = 4))) with
  | false => rw [h2] at h; simp at h
  | true =>
   rw [h2] at h
   simp only [cond_true, zl9, inR, Bool.and_eq_true, decide_eq_true_eq] at h
   simp only [Bool.or_eq_true, decide_eq_true_eq] at h2
   obtain ⟨g1, g2, ⟨g3, g4⟩, g5, g6⟩ := h
   have e : IntKind.i64.wrap (zao o + o.scale) = zao o + o.scale := zdr (by omega) (by omega)
   rw [e] at g6
   refine ⟨.inr h2, fun q => absurd q k1, fun q => absurd q k1, fun _ => ⟨g3, g4, by omega, by omega, g1, g2⟩⟩
theorem zs1 {w : Int} (hw : 0 ≤ w ∧ w ≤ 64) : ∀ {l : List MPiece} {a : Int}, 0 ≤ a → (∀ p ∈ l, 1 ≤ p.len ∧ p.len ≤ w) → a + 64 * l.length < 2 ^ 60 → 0 ≤ zfm a l ∧ zfm a l ≤ a + 64 * l.length
 | [], a, h0, _, _ => by simp [zfm]; exact h0
 | p :: l, a, h0, h, hs => by
  have hp := h p (by simp)
  simp only [List.length_cons] at hs ⊢
  have e : IntKind.i64.wrap (a + p.len) = a + p.len := zdr (by omega) (by omega)
  have := zs1 hw (l := l) (a := a + p.len) (by omega) (fun q hq => h q (by simp [hq])) (by omega)
  show 0 ≤ zfm (IntKind.i64.wrap (a + p.len)) l ∧ _
  rw [e]
  exact ⟨this.1, by show zfm (IntKind.i64.wrap (a + p.len)) l ≤ _; rw [e]; omega⟩
theorem yahe {m : MMach} (h1 : 1 ≤ m.word) (h2 : m.word ≤ 4) {o : MOpd} (ho : o.pieces.length < 1000000) (h : o.pieces.all (zcp m.word) = true) : 0 ≤ zao o ∧ zao o < 2 ^ 40 := by
 have := zs1 (w := 64) (by omega) (l := o.pieces) (a := 0) (by omega) (fun p hp => by
  have := List.all_eq_true.1 h p hp
  have e8 : IntKind.i64.wrap (8 * m.word) = 8 * m.word := zdr (by omega) (by omega)
  simp only [zcp, inR, e8, Bool.and_eq_true, decide_eq_true_eq] at this
  omega) (by omega)
 unfold zao
 omega
theorem zpy {m : MMach} (h : zb3 m = 0) : zhq m = true := by
 unfold zb3 at h
 cases hs : zhq m with
 | false => rw [hs] at h; simp at h
 | true => rfl
theorem yad2 {m : MMach} (h : zb3 m = 0) : goodB m = true := by
 have hs := zpy h
 unfold zb3 at h
 rw [hs] at h
 cases hg : goodB m with
 | false => rw [hg] at h; simp at h
 | true => rfl
theorem vm {m : MMach} (hm : Bd m) (h : zb3 m = 0) : VM m := by
 have hs := zpy h
 have hg := yad2 h
 unfold zhq at hs
 simp only [Bool.and_eq_true, decide_eq_true_eq, List.all_eq_true] at hs
 obtain ⟨⟨⟨s1, s2, s3, s4⟩, s5⟩, s6⟩ := hs
 unfold goodB at hg
 simp only [Bool.and_eq_true] at hg
 obtain ⟨⟨g1, g2, g3⟩, g4, g5, g6, g7⟩ := hg
 have hw : 1 ≤ m.word ∧ m.word ≤ 4 := by simpa [inR] using g2
 have ha : m.address = 16 ∨ m.address = 32 := by simpa using g3
 have hr : 0 < m.regs.length := by
  unfold zie at g4
  simp only [Bool.and_eq_true, decide_eq_true_eq] at g4
  omega
 unfold goodB.unitsB at g6
 simp only [Bool.and_eq_true, decide_eq_true_eq] at g6
 refine ⟨hw, ha, ⟨hr, by omega⟩, ⟨by omega, by omega⟩, by omega, fun x hx => ?_, fun s hsi => ?_⟩
 ·have := (zft g6.2 hx).2
  simpa [zko, inR] using this
 ·have hi := (zft g7 hsi).2
  have hf := s6 s hsi
  unfold zpu at hf
  simp only [Bool.and_eq_true, decide_eq_true_eq] at hf
  unfold zfq at hi
  simp only [Bool.and_eq_true] at hi
  obtain ⟨_, i1, i2, i3⟩ := hi
  unfold zpd at i3
  simp only [Bool.and_eq_true] at i3
  obtain ⟨_, _, r1, r2, r3, _⟩ := i3
  refine ⟨zc4 r1, by simpa [inR] using r2, by simpa [inR] using r3, fun i hio => ?_, by omega, by omega⟩
  obtain ⟨_, q, _⟩ := (zh4 hw.1 hw.2).1 i1
  rw [zh8] at q
  obtain ⟨_, q2, _⟩ := q i _ (List.getElem?_eq_getElem hio)
  simp only [Nat.zero_add, opQ, Bool.and_eq_true] at q2
  have hn := hm.o s hsi
  have hp := hm.p s hsi _ (List.getElem_mem hio)
  exact yazm g5 ha (by omega) (yahe hw.1 hw.2 hp q2.1) q2.2
theorem VM.ins {m : MMach} (h : VM m) {i : Int} (h0 : inR i 0 ((m.instrs.length : Int) - 1) = true) : ∃ hi : i.toNat < m.instrs.length, InF m m.instrs[i.toNat] := by
 obtain ⟨_, z1⟩ := zc4 h0
 exact ⟨z1, h.s _ (List.getElem_mem z1)⟩
def p2 (n : Int) : Int := ((2 ^ n.toNat : Nat) : Int)
def zja (o : MOpd) (n : Int) : Bool := bif decide (n.tmod (p2 o.scale) = 0) then (bif decide (o.kind = 3) then inR (IntKind.i64.wrap (n.tdiv (p2 o.scale))) 0 (p2 (zao o) - 1) else inR (IntKind.i64.wrap (n.tdiv (p2 o.scale))) (-p2 (zao o - 1)) (p2 (zao o - 1) - 1)) else false
theorem zlu {n : Int} : 0 < p2 n := by have := Nat.two_pow_pos n.toNat; unfold p2; omega
theorem yaaf {n : Int} (h : n ≤ 32) : p2 n ≤ 4294967296 := by
 have := Nat.pow_le_pow_right (n := 2) (by decide) (show n.toNat ≤ 32 by omega)
 have e : (2 : Nat) ^ 32 = 4294967296 := by decide
 rw [e] at this
 unfold p2; omega
theorem yalp {n : Int} : (2 : Int) ^ n.toNat = p2 n := by unfold p2; push_cast; rfl
theorem zwq {n : Int} (h0 : 0 ≤ n) (h : n ≤ 32) : zdw .shl .i64 1 n = some (.int .i64 (p2 n)) := by
 have hp := zlu (n := n)
 have hl := yaaf h
 unfold zdw
 rw [if_neg (by omega), Nat.min_eq_left (show n.toNat ≤ IntKind.i64.bits by show n.toNat ≤ 64; omega), Int.one_mul, yalp]
 simp only
 rw [zdr (by omega) (by omega)]
theorem yapx {n : Int} (h0 : 0 ≤ n) (h : n ≤ 32) : zdw .shl .i64 (-1) n = some (.int .i64 (-p2 n)) := by
 have hp := zlu (n := n)
 have hl := yaaf h
 unfold zdw
 rw [if_neg (by omega), Nat.min_eq_left (show n.toNat ≤ IntKind.i64.bits by show n.toNat ≤ 64; omega), yalp]
 have e : (-1 : Int) * p2 n = -p2 n := by omega
 rw [e]
 simp only
 rw [zdr (by omega) (by omega)]
theorem yaai (m : MMach) (i : Nat) (o : MOpd) (ho : o.pieces.length < 2 ^ 62) (hf : OpF m i o) (hk : o.kind ≠ 1) (n : Int) : zas Tryz.prog (om Tryz.prog) 69 [zaq o, .int .i64 n] ⟨0, []⟩ = some (.bool (zja o n), ⟨0, []⟩) := by
 obtain ⟨z0, z1, f0, f1, _, _⟩ := hf.n hk
 have hF := zs3 o ho
 have s1 := zwq (n := o.scale) z0 (by omega)
 have s2 := zwq (n := zao o) (by omega) (by omega)
 have s3 := zwq (n := zao o - 1) (by omega) (by omega)
 have s4 := yapx (n := zao o - 1) (by omega) (by omega)
 have w1 : IntKind.i64.wrap (zao o - 1) = zao o - 1 := zdr (by omega) (by omega)
 have l2 := yaaf (n := zao o) (by omega)
 have l3 := yaaf (n := zao o - 1) (by omega)
 have q2 := zlu (n := zao o)
 have q3 := zlu (n := zao o - 1)
 have w2 : IntKind.i64.wrap (p2 (zao o) - 1) = p2 (zao o) - 1 := zdr (by omega) (by omega)
 have w3 : IntKind.i64.wrap (p2 (zao o - 1) - 1) = p2 (zao o - 1) - 1 := zdr (by omega) (by omega)
 have n0 : p2 o.scale ≠ 0 := by have := zlu (n := o.scale); omega
 unfold zaq at hF
 unfold zja
 rw [yar9 _ _ (by simp)]
 cases h1 : decide (n.tmod (p2 o.scale) = 0) with
 | false => simp (maxSteps := 1000000) -implicitDefEqProofs only [↓reduceIte, ↓cond_true, ↓cond_false, sr1, sr2, kA, seval, d69, yaof, n69, zaq, s1, in_rem n0, h1]
 | true =>
  cases h3 : decide (o.kind = 3) with
  | true => simp (maxSteps := 1000000) -implicitDefEqProofs only [↓reduceIte, ↓cond_true, ↓cond_false, sr1, sr2, kA, seval, d69, yaof, n69, zaq, s1, in_rem n0, in_quo n0, h1, hF, h3, s2, w2, zai]
  | false => simp (maxSteps := 1000000) -implicitDefEqProofs only [↓reduceIte, ↓cond_true, ↓cond_false, sr1, sr2, kA, seval, d69, yaof, n69, zaq, s1, in_rem n0, in_quo n0, h1, hF, h3, w1, s3, s4, w3, zai]
theorem zwi (m : MMach) (i : Nat) (o : MOpd) (ho : o.pieces.length < 2 ^ 62) (hf : OpF m i o) (hk : o.kind ≠ 1) (n : Int) : zas Tryz.prog (om Tryz.prog) 96 [zaq o, .int .i64 n] ⟨0, []⟩ = some (.bool (zja o n), ⟨0, []⟩) := by
 obtain ⟨z0, z1, f0, f1, _, _⟩ := hf.n hk
 have hF := zpp o ho
 obtain ⟨a, ea⟩ := Int.eq_ofNat_of_zero_le z0
 obtain ⟨b, eb⟩ : ∃ b : Nat, zao o = (b : Int) := ⟨(zao o).toNat, by omega⟩
 obtain ⟨c, ec⟩ : ∃ c : Nat, zao o - 1 = (c : Int) := ⟨(zao o - 1).toNat, by omega⟩
 have s1 := zke a (by omega)
 have s2 := zke b (by omega)
 have s3 := zke c (by omega)
 have e1 : ((2 ^ a : Nat) : Int) = p2 o.scale := by rw [ea]; rfl
 have e2 : ((2 ^ b : Nat) : Int) = p2 (zao o) := by rw [eb]; rfl
 have e3 : ((2 ^ c : Nat) : Int) = p2 (zao o - 1) := by rw [ec]; rfl
 rw [e1, ← ea] at s1
 rw [e2, ← eb] at s2
 rw [e3, ← ec] at s3
 have w1 : IntKind.i64.wrap (zao o - 1) = zao o - 1 := zdr (by omega) (by omega)
 have l2 := yaaf (n := zao o) (by omega)
 have l3 := yaaf (n := zao o - 1) (by omega)
 have q2 := zlu (n := zao o)
 have q3 := zlu (n := zao o - 1)
 have w2 : IntKind.i64.wrap (p2 (zao o) - 1) = p2 (zao o) - 1 := zdr (by omega) (by omega)
 have w3 : IntKind.i64.wrap (p2 (zao o - 1) - 1) = p2 (zao o - 1) - 1 := zdr (by omega) (by omega)
 have w4 : IntKind.i64.wrap (0 - p2 (zao o - 1)) = -p2 (zao o - 1) := by rw [zdr (by omega) (by omega)]; omega
 have n0 : p2 o.scale ≠ 0 := by have := zlu (n := o.scale); omega
 unfold zaq at hF
 unfold zja
 rw [yaso _ _ (by simp)]
 cases h1 : decide (n.tmod (p2 o.scale) = 0) with
 | false => simp (maxSteps := 1000000) -implicitDefEqProofs only [↓reduceIte, ↓cond_true, ↓cond_false, sr1, sr2, kA, seval, d96, yaog, yaoh, n96, zaq, s1, in_rem n0, h1]
 | true =>
  cases h3 : decide (o.kind = 3) with
  | true => simp (maxSteps := 1000000) -implicitDefEqProofs only [↓reduceIte, ↓cond_true, ↓cond_false, sr1, sr2, kA, seval, d96, yaog, yaoh, n96, zaq, s1, in_rem n0, in_quo n0, h1, hF, h3, s2, w2, zap]
  | false => simp (maxSteps := 1000000) -implicitDefEqProofs only [↓reduceIte, ↓cond_true, ↓cond_false, sr1, sr2, kA, seval, d96, yaog, yaoh, n96, zaq, s1, in_rem n0, in_quo n0, h1, hF, h3, w1, s3, w3, w4, zap]
structure MOp where
 instr : Int
 p : Pl
 args : List Int
abbrev opC (o : MOp) : List AV := [.int .i64 o.instr, .rsl (slA o.p o.args) o.p.cap 1 (o.args.map zat)]
def opV (o : MOp) : AV := .agg (opC o)
def zse (m : MMach) (b : Int) : List Int := match m.banks[b.toNat]? with | some x => x.regs | none => []
def yaav (m : MMach) (args : List Int) (o : MOpd) (n : Int) : Int :=
 bif decide (o.kind = 1) then (bif zv0 (zse m o.bank) n then (bif decide (0 ≤ o.tied) && !decide (args.getD o.tied.toNat 0 = n) then 40 else 0) else 16) else bif zja o n then 0 else 24
def zkm (m : MMach) (args : List Int) : List MOpd → List Int → Int
 | o :: l, n :: ns => bif decide (yaav m args o n = 0) then zkm m args l ns else yaav m args o n
 | _, _ => 0
def zpf (m : MMach) (o : MOp) : Int :=
 bif inR o.instr 0 ((m.instrs.length : Int) - 1) then (match m.instrs[o.instr.toNat]? with
  | some s => bif decide (o.args.length = s.operands.length) then zkm m o.args s.operands o.args else 2
  | none => 0) else 6
theorem zqa {m : MMach} {args : List Int} {l : List MOpd} {ns : List Int} {i : Nat} (h : i < l.length) (h2 : i < ns.length) : zkm m args (l.drop i) (ns.drop i) = bif decide (yaav m args l[i] ns[i] = 0) then zkm m args (l.drop (i + 1)) (ns.drop (i + 1)) else yaav m args l[i] ns[i] := by
 rw [List.drop_eq_getElem_cons h, List.drop_eq_getElem_cons h2]; rfl
theorem zsf {m : MMach} {b : Int} (h : b.toNat < m.banks.length) : zse m b = m.banks[b.toNat].regs := by unfold zse; rw [List.getElem?_eq_getElem h]
abbrev mpH (m : MMach) (o : MOp) : Heap := ⟨2, [some (.cells 27 (zae m)), some (.cells 64 (opC o))]⟩
theorem yaca (m : MMach) (hB : Bd m) (s : MInstr) (hl : s.operands.length < 1000000) (hp : ∀ o ∈ s.operands, o.pieces.length < 1000000) (hF : ∀ i (h : i < s.operands.length), OpF m i s.operands[i]) (o : MOp) (ha : o.args.length = s.operands.length) : ∀ i, i ≤ s.operands.length →
  lim (some []) 0 (blk 0 (om Tryz.prog ⟨39, none⟩ 0 (.loop (lpb Tryz.f39 0)) ⟨⟨80, [(2, .ptr 0 0), (3, .ptr 1 0), (37, .rsl (slA s.po s.operands) s.po.cap 6 (s.operands.map zaq)), (38, .int .i64 s.operands.length), (39, .int .i64 i)]⟩, [], mpH m o⟩)) =
  bif decide (zkm m o.args (s.operands.drop i) (o.args.drop i) = 0) then some (.normal, ⟨⟨80, []⟩, [], ⟨0, []⟩⟩) else some (.ret, ⟨⟨80, [(4, .int .i64 (zkm m o.args (s.operands.drop i) (o.args.drop i)))]⟩, [], ⟨0, []⟩⟩) := by
 refine zbl ?_ (fun i h ih => ?_) <;> rw [zac]
 ·simp (maxSteps := 1000000) -implicitDefEqProofs only [↓reduceIte, ↓cond_true, ↓cond_false, sr1, sr2, kA, seval, d39, n39, zl8, e39, List.drop_length, zkm, mpH]
 ·have h2 : i < o.args.length := by omega
  have hf := hF i h
  have hm := List.getElem_mem h
  rw [zqa h h2]
  generalize zkm m o.args (s.operands.drop (i + 1)) (o.args.drop (i + 1)) = R at ih ⊢
  unfold yaav
  cases k1d : decide (s.operands[i].kind = 1) with
  | false =>
   have hr := yaai m i s.operands[i] (by have := hp _ hm; omega) hf (of_decide_eq_false k1d) o.args[i]
   unfold zaq at hr
   cases hR : zja s.operands[i] o.args[i] with
   | false => simp (maxSteps := 1000000) -implicitDefEqProofs only [↓reduceIte, ↓cond_true, ↓cond_false, sr1, sr2, kA, seval, d39, n39, zl8, e39, mpH, zae, dlt_t h, ix_sl zab h, ix_sl zab h2, zaq, zat, k1d, hr, hR]
   | true => simp (maxSteps := 1000000) -implicitDefEqProofs only [↓reduceIte, ↓cond_true, ↓cond_false, sr1, sr2, kA, seval, d39, n39, zl8, e39, mpH, zae, dlt_t h, wi_nat (show i < 2 ^ 62 by omega), ix_sl zab h, ix_sl zab h2, zaq, zat, k1d, hr, hR, ih]
  | true =>
   obtain ⟨b1, b0, _⟩ := hf.b (of_decide_eq_true k1d)
   have hC := zf3 (slA m.banks[s.operands[i].bank.toNat].p m.banks[s.operands[i].bank.toNat].regs) m.banks[s.operands[i].bank.toNat].p.cap m.banks[s.operands[i].bank.toNat].regs o.args[i] zab (by have := hB.br _ (List.getElem_mem b1); omega)
   have e := zsf b1
   have ib := ix_z (f := zbv) (k := .i64) (a := slA m.pb m.banks) (c := m.pb.cap) (sz := 2) zab b0 b1
   cases hc : zv0 (zse m s.operands[i].bank) o.args[i] with
   | false =>
    rw [e] at hc
    simp (maxSteps := 1000000) -implicitDefEqProofs only [↓reduceIte, ↓cond_true, ↓cond_false, sr1, sr2, kA, seval, d39, n39, zl8, e39, mpH, zae, dlt_t h, ix_sl zab h, ix_sl zab h2, zaq, zat, k1d, ib, zbv, hC, hc]
   | true =>
    rw [e] at hc
    rcases hf.z (of_decide_eq_true k1d) with ht | ⟨t0, t1⟩
    ·have t0 : decide (0 ≤ s.operands[i].tied) = false := decide_eq_false (by omega)
     simp (maxSteps := 1000000) -implicitDefEqProofs only [↓reduceIte, ↓cond_true, ↓cond_false, sr1, sr2, kA, seval, d39, n39, zl8, e39, mpH, zae, dlt_t h, wi_nat (show i < 2 ^ 62 by omega), ix_sl zab h, ix_sl zab h2, zaq, zat, k1d, ib, zbv, hC, hc, t0, ih]
    ·have t2 : s.operands[i].tied.toNat < o.args.length := by omega
     have it := ix_z (f := zat) (k := .i64) (a := slA o.p o.args) (c := o.p.cap) (sz := 1) zab t0 t2
     have td := decide_eq_true t0
     have eg : o.args.getD s.operands[i].tied.toNat 0 = o.args[s.operands[i].tied.toNat] := za2 t2
     rw [eg]
     cases hd : decide (o.args[s.operands[i].tied.toNat] = o.args[i]) with
     | true => simp (maxSteps := 1000000) -implicitDefEqProofs only [↓reduceIte, ↓cond_true, ↓cond_false, sr1, sr2, kA, seval, d39, n39, zl8, e39, mpH, zae, dlt_t h, wi_nat (show i < 2 ^ 62 by omega), ix_sl zab h, ix_sl zab h2, zaq, zat, k1d, ib, zbv, hC, hc, td, it, hd, ih]
     | false => simp (maxSteps := 1000000) -implicitDefEqProofs only [↓reduceIte, ↓cond_true, ↓cond_false, sr1, sr2, kA, seval, d39, n39, zl8, e39, mpH, zae, dlt_t h, wi_nat (show i < 2 ^ 62 by omega), ix_sl zab h, ix_sl zab h2, zaq, zat, k1d, ib, zbv, hC, hc, td, it, hd, ih]
theorem zvh (m : MMach) (hm : MOk m) (o : MOp) : zas Tryz.prog (om Tryz.prog) 39 [zag m, opV o] ⟨0, []⟩ = some (.int .i64 (bif decide (zb3 m = 0) then zpf m o else zb3 m), ⟨0, []⟩) := by
 have hC := zk1 m hm
 simp only [zag, zae] at hC
 rw [yarr _ _ (by simp)]
 cases h0 : decide (zb3 m = 0) with
 | false => simp (maxSteps := 1000000) -implicitDefEqProofs only [↓reduceIte, ↓cond_true, ↓cond_false, sr1, sr2, kA, seval, d39, n39, zl8, e39, zag, zae, opV, hC, h0]
 | true =>
  have hv := vm hm.b (of_decide_eq_true h0)
  have wl : IntKind.i64.wrap ((m.instrs.length : Int) - 1) = (m.instrs.length : Int) - 1 := zam hm.b.i
  unfold zpf
  cases hI : inR o.instr 0 ((m.instrs.length : Int) - 1) with
  | false => simp (maxSteps := 1000000) -implicitDefEqProofs only [↓reduceIte, ↓cond_true, ↓cond_false, sr1, sr2, kA, seval, d39, n39, zl8, e39, zag, zae, opV, hC, h0, wl, zai, hI]
  | true =>
   obtain ⟨z0, z1⟩ := zc4 hI
   obtain ⟨_, hf⟩ := hv.ins hI
   have hs := List.getElem_mem z1
   have ib := ix_z (f := zad) (k := .i64) (a := slA m.pi m.instrs) (c := m.pi.cap) (sz := 9) zab z0 z1
   rw [List.getElem?_eq_getElem z1]
   simp only
   generalize m.instrs[o.instr.toNat] = s at *
   cases hl : decide (o.args.length = s.operands.length) with
   | false =>
    have hl' : decide ((o.args.length : Int) = (s.operands.length : Int)) = false := decide_eq_false (by have := of_decide_eq_false hl; omega)
    simp (maxSteps := 1000000) -implicitDefEqProofs only [↓reduceIte, ↓cond_true, ↓cond_false, sr1, sr2, kA, seval, d39, n39, zl8, e39, zag, zae, opV, hC, h0, wl, zai, hI, ib, zad, hl']
   | true =>
    have hl' : decide ((o.args.length : Int) = (s.operands.length : Int)) = true := decide_eq_true (by have := of_decide_eq_true hl; omega)
    have L := yaca m hm.b s (hm.b.o _ hs) (hm.b.p _ hs) hf.o o (of_decide_eq_true hl) 0 (Nat.zero_le _)
    simp only [Int.natCast_zero, List.drop_zero, mpH, zae] at L
    cases hS : decide (zkm m o.args s.operands o.args = 0) with
    | false =>
     rw [hS] at L
     simp (maxSteps := 1000000) -implicitDefEqProofs only [↓reduceIte, ↓cond_true, ↓cond_false, sr1, sr2, kA, seval, d39, n39, zl8, e39, zag, zae, opV, hC, h0, wl, zai, hI, ib, zad, hl', L]
    | true =>
     rw [hS] at L
     have e0 := of_decide_eq_true hS
     simp (maxSteps := 1000000) -implicitDefEqProofs only [↓reduceIte, ↓cond_true, ↓cond_false, sr1, sr2, kA, seval, d39, n39, zl8, e39, zag, zae, opV, hC, h0, wl, zai, hI, ib, zad, hl', L, e0]
end Go.Proofs.YtibehelnfbcnjaaGreatDoor.v
