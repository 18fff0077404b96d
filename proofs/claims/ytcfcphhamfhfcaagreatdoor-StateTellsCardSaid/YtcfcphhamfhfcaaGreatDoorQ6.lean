/- What the law's proof leans on, part 25. Conditions: in each statement. -/
import Derived.Test.YtcfcphhamfhfcaaGreatDoorQ5
set_option linter.all false
namespace Go.Proofs.YtcfcphhamfhfcaaGreatDoor.v
open Go Go.Ab
set_option maxRecDepth 100000
set_option maxHeartbeats 4000000
set_option linter.unusedSimpArgs false
set_option linter.unusedVariables false
structure Ctx8 (m : MMach) (s : MInstr) : Prop where
 b : Bd m
 n : ∀ r ∈ m.regs, r.name.size < 1000000
 l : s.operands.length < 1000000
 w : ∀ o ∈ s.operands, o.kind = 1 → zgx m o
abbrev mitH (m : MMach) (s : MInstr) (t : MTerm) : Heap := ⟨3, [some (.cells 27 (zad m)), some (.cells 113 (zi4 s)), some (.cells 120 t.cs)]⟩
theorem yatj (m : MMach) (s : MInstr) (t : MTerm) (hl : t.sub.length < 2 ^ 62) (hS : ∀ x ∈ t.sub, zaq Tryz.prog (om Tryz.prog) 169 [zac m, zaf s, zag x] ⟨0, []⟩ = some (.bool (x.nodes.all (zd9 m s)), ⟨0, []⟩)) : ∀ i, i ≤ t.sub.length → lim (some []) 0 (blk 0 (om Tryz.prog ⟨169, none⟩ 0 (.loop (lpb Tryz.f169 0)) ⟨⟨50, [(3, .ptr 0 0), (4, .ptr 1 0), (5, .ptr 2 0), (7, .int .i64 i)]⟩, [], mitH m s t⟩)) =
  bif (t.sub.drop i).all (fun x => x.nodes.all (zd9 m s)) then some (.normal, ⟨⟨50, []⟩, [], ⟨0, []⟩⟩) else some (.ret, ⟨⟨50, [(6, .bool false)]⟩, [], ⟨0, []⟩⟩) := by
 refine zb8 ?_ (fun i h ih => ?_) <;> rw [zae]
 ·simp (maxSteps := 1000000) -implicitDefEqProofs only [↓reduceIte, ↓cond_true, ↓cond_false, sr1, sr2, kA, seval, d169, ziv, ziw, n169, e169, zah, List.drop_length]
 ·have hx := hS t.sub[i] (List.getElem_mem h)
  rw [List.drop_eq_getElem_cons h, List.all_cons]
  simp only [mitH, zac, zad, zaf, zag, zah] at hx ih
  cases hr : t.sub[i].nodes.all (zd9 m s) with
  | true =>
   rw [hr] at hx
   simp (maxSteps := 1000000) -implicitDefEqProofs only [↓reduceIte, ↓cond_true, ↓cond_false, sr1, sr2, kA, seval, d169, ziv, ziw, n169, e169, mitH, dlt_t h, wi_nat (show i < 2 ^ 62 by omega), zdq h, zah, hx, ih]
  | false =>
   rw [hr] at hx
   simp (maxSteps := 1000000) -implicitDefEqProofs only [↓reduceIte, ↓cond_true, ↓cond_false, sr1, sr2, kA, seval, d169, ziv, ziw, n169, e169, mitH, dlt_t h, zdq h, zah, hx]
theorem yagm (m : MMach) (s : MInstr) (hc : Ctx8 m s) (t : MTerm) (hz : t.sz < 2 ^ 62) (hn : zc2 t = true) : zaq Tryz.prog (om Tryz.prog) 169 [zac m, zaf s, zag t] ⟨0, []⟩ = some (.bool (t.nodes.all (zd9 m s)), ⟨0, []⟩) := by
 refine zda (Q := fun t => t.sz < 2 ^ 62 → zc2 t = true → zaq Tryz.prog (om Tryz.prog) 169 [zac m, zaf s, zag t] ⟨0, []⟩ = some (.bool (t.nodes.all (zd9 m s)), ⟨0, []⟩)) (fun t ih hz hn => ?_) t hz hn
 have hs := zfz t
 have hn' := hn
 unfold zc2 at hn'
 rw [zdv, Bool.and_eq_true, List.all_eq_true] at hn'
 have L := yatj m s t (by omega) (fun x hx => ih x hx (by have := zk3 hx; omega) (hn'.2 x hx)) 0 (Nat.zero_le _)
 have hV := zxc m hc.b hc.n s hc.l hc.w t.nm t.wd
 simp only [mitH, zac, zad, zaf, zah, Int.natCast_zero, List.drop_zero] at L hV
 rw [zdv]
 rw [yar7 _ _ (by simp)]
 cases h2 : decide (t.kd = 2) with
 | true =>
  have h24 : decide (t.kd = 24) = false := decide_eq_false (by have := of_decide_eq_true h2; omega)
  cases hv : zhd m s t.nm t.wd with
  | false => simp (maxSteps := 1000000) -implicitDefEqProofs only [↓reduceIte, ↓cond_true, ↓cond_false, sr1, sr2, kA, seval, d169, ziv, ziw, n169, e169, zac, zad, zaf, zag, zah, h2, hV, hv, zd9]
  | true =>
   cases hr : t.sub.all (fun x => x.nodes.all (zd9 m s)) with
   | true =>
    rw [hr] at L
    simp (maxSteps := 1000000) -implicitDefEqProofs only [↓reduceIte, ↓cond_true, ↓cond_false, sr1, sr2, kA, seval, d169, ziv, ziw, n169, e169, zac, zad, zaf, zag, zah, h2, h24, hV, hv, L, zd9]
   | false =>
    rw [hr] at L
    simp (maxSteps := 1000000) -implicitDefEqProofs only [↓reduceIte, ↓cond_true, ↓cond_false, sr1, sr2, kA, seval, d169, ziv, ziw, n169, e169, zac, zad, zaf, zag, zah, h2, h24, hV, hv, L, zd9]
 | false =>
  cases h24 : decide (t.kd = 24) with
  | true =>
   have h0 := zwq hn'.1 (of_decide_eq_true h24)
   have i0 := zdq h0
   have w0 := zdb h0
   simp only [Int.natCast_zero] at i0
   cases hw : decide (t.sub[0].wd = m.address) with
   | false => simp (maxSteps := 1000000) -implicitDefEqProofs only [↓reduceIte, ↓cond_true, ↓cond_false, sr1, sr2, kA, seval, d169, ziv, ziw, n169, e169, zac, zad, zaf, zag, zah, h2, h24, i0, w0, hw, zd9]
   | true =>
    cases hr : t.sub.all (fun x => x.nodes.all (zd9 m s)) with
    | true =>
     rw [hr] at L
     simp (maxSteps := 1000000) -implicitDefEqProofs only [↓reduceIte, ↓cond_true, ↓cond_false, sr1, sr2, kA, seval, d169, ziv, ziw, n169, e169, zac, zad, zaf, zag, zah, h2, h24, i0, w0, hw, L, zd9]
    | false =>
     rw [hr] at L
     simp (maxSteps := 1000000) -implicitDefEqProofs only [↓reduceIte, ↓cond_true, ↓cond_false, sr1, sr2, kA, seval, d169, ziv, ziw, n169, e169, zac, zad, zaf, zag, zah, h2, h24, i0, w0, hw, L, zd9]
  | false =>
   cases hr : t.sub.all (fun x => x.nodes.all (zd9 m s)) with
   | true =>
    rw [hr] at L
    simp (maxSteps := 1000000) -implicitDefEqProofs only [↓reduceIte, ↓cond_true, ↓cond_false, sr1, sr2, kA, seval, d169, ziv, ziw, n169, e169, zac, zad, zaf, zag, zah, h2, h24, L, zd9]
   | false =>
    rw [hr] at L
    simp (maxSteps := 1000000) -implicitDefEqProofs only [↓reduceIte, ↓cond_true, ↓cond_false, sr1, sr2, kA, seval, d169, ziv, ziw, n169, e169, zac, zad, zaf, zag, zah, h2, h24, L, zd9]
structure POk (t : MTerm) : Prop where
 f : FOk t
 s : t.sz < 1000000
theorem POk.k {t : MTerm} (h : POk t) : zi7 t := fun x hx => (h.f.n x hx).kd
theorem zg0 (m : MMach) (s : MInstr) (hc : Ctx8 m s) (t : MTerm) (ht : POk t) : zaq Tryz.prog (om Tryz.prog) 155 [zac m, zaf s, zag t] ⟨0, []⟩ = some (.bool (zp1 m s t), ⟨0, []⟩) := by
 have hR := zw0 t ht.f ht.s
 have hR' := hR
 simp only [zag, zah] at hR'
 rw [yary _ _ (by simp)]
 cases h : decide (zut t = 0) with
 | false => simp (maxSteps := 1000000) -implicitDefEqProofs only [↓reduceIte, ↓cond_true, ↓cond_false, sr1, sr2, kA, seval, d155, n155, zac, zad, zaf, zag, zah, hR', h, zp1]
 | true =>
  have hn : zc2 t = true := zq8 (by rw [← yab3 t ht.k]; exact h)
  have hK := yagm m s hc t ht.f.sz hn
  simp only [zac, zad, zaf, zag, zah] at hK
  simp (maxSteps := 1000000) -implicitDefEqProofs only [↓reduceIte, ↓cond_true, ↓cond_false, sr1, sr2, kA, seval, d155, n155, zac, zad, zaf, zag, zah, hR', h, hK, zp1]
structure XOk (x : MEff) : Prop where
 a : POk x.addr
 v : POk x.value
 c : POk x.cond
theorem yauc (m : MMach) (s : MInstr) (hc : Ctx8 m s) (x : MEff) (ho : XOk x) (h1 : decide (x.kind = 1) = false) (h2 : decide (x.kind = 2) = false) (h3 : decide (x.kind = 3) = false) : zaq Tryz.prog (om Tryz.prog) 133 [zac m, zaf s, zu4 x] ⟨0, []⟩ = some (.bool (zos m s x), ⟨0, []⟩) := by
 have hF := zg0 m s hc x.value ho.v
 have hA := zfu x.addr
 have hC := zfu x.cond
 simp only [zac, zad, zaf, zag, zah] at hF hA hC
 rw [zcp]
 rw [zta _ _ (by simp)]
 cases h4 : decide (x.kind = 4) with
 | false => simp (maxSteps := 1000000) -implicitDefEqProofs only [↓reduceIte, ↓cond_true, ↓cond_false, sr1, sr2, kA, seval, d133, zkl, zkm, n133, zku, zkv, zkw, zac, zad, zaf, h1, h2, h3, h4, zos]
 | true => simp (maxSteps := 1000000) -implicitDefEqProofs only [↓reduceIte, ↓cond_true, ↓cond_false, sr1, sr2, kA, seval, d133, zkl, zkm, n133, zku, zkv, zkw, zac, zad, zaf, h1, h2, h3, h4, hF, hA, hC, zos, Bool.and_assoc]
theorem yaub (m : MMach) (s : MInstr) (hc : Ctx8 m s) (x : MEff) (ho : XOk x) (h1 : decide (x.kind = 1) = false) (h2 : decide (x.kind = 2) = false) (h3 : decide (x.kind = 3) = true) : zaq Tryz.prog (om Tryz.prog) 133 [zac m, zaf s, zu4 x] ⟨0, []⟩ = some (.bool (zos m s x), ⟨0, []⟩) := by
 have hF := zg0 m s hc x.value ho.v
 have hG := zg0 m s hc x.cond ho.c
 have hA := zfu x.addr
 have hC := zfu x.cond
 simp only [zac, zad, zaf, zag, zah] at hF hG hA hC
 rw [zcp]
 rw [zta _ _ (by simp)]
 simp (maxSteps := 1000000) -implicitDefEqProofs only [↓reduceIte, ↓cond_true, ↓cond_false, sr1, sr2, kA, seval, d133, zkl, zkm, n133, zku, zkv, zkw, zac, zad, zaf, h1, h2, h3, hF, hG, hA, hC, zos, Bool.and_assoc]
theorem yaua (m : MMach) (s : MInstr) (hc : Ctx8 m s) (x : MEff) (ho : XOk x) (h1 : decide (x.kind = 1) = false) (h2 : decide (x.kind = 2) = true) : zaq Tryz.prog (om Tryz.prog) 133 [zac m, zaf s, zu4 x] ⟨0, []⟩ = some (.bool (zos m s x), ⟨0, []⟩) := by
 have hF := zg0 m s hc x.value ho.v
 have hG := zg0 m s hc x.addr ho.a
 have hC := zfu x.cond
 simp only [zac, zad, zaf, zag, zah] at hF hG hC
 rw [zcp]
 rw [zta _ _ (by simp)]
 simp (maxSteps := 1000000) -implicitDefEqProofs only [↓reduceIte, ↓cond_true, ↓cond_false, sr1, sr2, kA, seval, d133, zkl, zkm, n133, zku, zkv, zkw, zac, zad, zaf, h1, h2, hF, hG, hC, zos, zg4, Bool.and_assoc, Bool.or_assoc]
theorem yat9 (m : MMach) (s : MInstr) (hc : Ctx8 m s) (x : MEff) (ho : XOk x) (h1 : decide (x.kind = 1) = true) : zaq Tryz.prog (om Tryz.prog) 133 [zac m, zaf s, zu4 x] ⟨0, []⟩ = some (.bool (zos m s x), ⟨0, []⟩) := by
 have hF := zg0 m s hc x.value ho.v
 have hA := zfu x.addr
 have hC := zfu x.cond
 have hr := hc.b.r
 have hl := hc.l
 simp only [zac, zad, zaf, zag, zah] at hF hA hC
 rw [zcp]
 rw [zta _ _ (by simp)]
 cases d1 : decide (x.operand = -1) with
 | true =>
  cases d2 : inR x.reg 0 ((m.regs.length : Int) - 1) with
  | false => simp (maxSteps := 1000000) -implicitDefEqProofs only [↓reduceIte, ↓cond_true, ↓cond_false, sr1, sr2, kA, seval, d133, zkl, zkm, n133, zku, zkv, zkw, zac, zad, zaf, h1, hF, hA, hC, za3, d1, zas hr, d2, zos, Bool.and_assoc]
  | true =>
   obtain ⟨z0, z1⟩ := zd7 d2
   simp (maxSteps := 1000000) -implicitDefEqProofs only [↓reduceIte, ↓cond_true, ↓cond_false, sr1, sr2, kA, seval, d133, zkl, zkm, n133, zku, zkv, zkw, zac, zad, zaf, h1, hF, hA, hC, za3, d1, zas hr, d2, ix_z zab z0 z1, zei, zcf z1, zos, Bool.and_assoc, Bool.not_or, Bool.not_not]
 | false =>
  cases d3 : decide (x.reg = 0) with
  | false => simp (maxSteps := 1000000) -implicitDefEqProofs only [↓reduceIte, ↓cond_true, ↓cond_false, sr1, sr2, kA, seval, d133, zkl, zkm, n133, zku, zkv, zkw, zac, zad, zaf, h1, hF, hA, hC, za3, d1, d3, zos, Bool.and_assoc]
  | true =>
   cases d4 : inR x.operand 0 ((s.operands.length : Int) - 1) with
   | false => simp (maxSteps := 1000000) -implicitDefEqProofs only [↓reduceIte, ↓cond_true, ↓cond_false, sr1, sr2, kA, seval, d133, zkl, zkm, n133, zku, zkv, zkw, zac, zad, zaf, h1, hF, hA, hC, za3, d1, d3, zas hl, d4, zos, Bool.and_assoc]
   | true =>
    obtain ⟨z0, z1⟩ := zd7 d4
    cases d5 : decide (s.operands[x.operand.toNat].kind = 1) with
    | false => simp (maxSteps := 1000000) -implicitDefEqProofs only [↓reduceIte, ↓cond_true, ↓cond_false, sr1, sr2, kA, seval, d133, zkl, zkm, n133, zku, zkv, zkw, zac, zad, zaf, h1, hF, hA, hC, za3, d1, d3, zas hl, d4, ix_z zab z0 z1, zbj, d5, znv, zlb z1, zos, Bool.and_assoc]
    | true =>
     have hw := zxh m s.operands[x.operand.toNat] (hc.w _ (List.getElem_mem z1))
     simp only [zac, zad, zbj] at hw
     simp (maxSteps := 1000000) -implicitDefEqProofs only [↓reduceIte, ↓cond_true, ↓cond_false, sr1, sr2, kA, seval, d133, zkl, zkm, n133, zku, zkv, zkw, zac, zad, zaf, h1, hF, hA, hC, za3, d1, d3, zas hl, d4, ix_z zab z0 z1, zbj, d5, hw, znv, zlb z1, zos, Bool.and_assoc, Bool.not_or, Bool.not_not]
theorem yag4 (m : MMach) (s : MInstr) (hc : Ctx8 m s) (x : MEff) (ho : XOk x) : zaq Tryz.prog (om Tryz.prog) 133 [zac m, zaf s, zu4 x] ⟨0, []⟩ = some (.bool (zos m s x), ⟨0, []⟩) := by
 cases h1 : decide (x.kind = 1) with
 | true => exact yat9 m s hc x ho h1
 | false =>
  cases h2 : decide (x.kind = 2) with
  | true => exact yaua m s hc x ho h1 h2
  | false =>
   cases h3 : decide (x.kind = 3) with
   | true => exact yaub m s hc x ho h1 h2 h3
   | false => exact yauc m s hc x ho h1 h2 h3
structure JOk (s : MInstr) : Prop where
 i : IOk s
 x : ∀ x ∈ s.effects, XOk x
 m0 : 0 ≤ s.mask
 m1 : s.mask < 2 ^ 64
 a0 : 0 ≤ s.mat
 a1 : s.mat < 2 ^ 64
def matI (s : MInstr) (b : Nat) : Bool := !decide (zu3 s.mask b < zu3 s.mat b)
theorem yada (m : MMach) (s : MInstr) (hs : JOk s) : ∀ b : Nat, b ≤ 64 → lim (some [2, 3]) 0 (blk 0 (om Tryz.prog ⟨82, none⟩ 0 (.loop (lpb Tryz.f82 0)) ⟨⟨123, [(2, .ptr 0 0), (3, .ptr 1 0), (5, .int .i64 b)]⟩, [], miH m s⟩)) =
  bif zb9 (matI s) b 64 then some (.normal, ⟨⟨123, [(2, .ptr 0 0), (3, .ptr 1 0)]⟩, [], miH m s⟩) else some (.ret, ⟨⟨123, [(4, .bool false)]⟩, [], ⟨0, []⟩⟩) := by
 refine zb8 ?_ (fun b h ih => ?_) <;> rw [zae]
 ·simp (maxSteps := 1000000) -implicitDefEqProofs only [↓reduceIte, ↓cond_true, ↓cond_false, sr1, sr2, kA, seval, d82, ziz, zey, n82, zjc, zjd, e82, zba, show ((64 : Nat) : Int) = 64 from rfl]
 ·have hm := zs8 b (by omega) s.mask hs.m0 hs.m1
  have ha := zs8 b (by omega) s.mat hs.a0 hs.a1
  have hd : decide ((b : Int) < 64) = true := decide_eq_true (by omega)
  rw [zbr h]
  cases hx : matI s b with
  | true =>
   have hx' : decide (zu3 s.mask b < zu3 s.mat b) = false := by unfold matI at hx; simpa using hx
   simp (maxSteps := 1000000) -implicitDefEqProofs only [↓reduceIte, ↓cond_true, ↓cond_false, sr1, sr2, kA, seval, d82, ziz, zey, n82, zjc, zjd, e82, hd, wi_nat (show b < 2 ^ 62 by omega), hm, ha, hx', ih]
  | false =>
   have hx' : decide (zu3 s.mask b < zu3 s.mat b) = true := by unfold matI at hx; simpa using hx
   simp (maxSteps := 1000000) -implicitDefEqProofs only [↓reduceIte, ↓cond_true, ↓cond_false, sr1, sr2, kA, seval, d82, ziz, zey, n82, zjc, zjd, e82, hd, hm, ha, hx']
def opI (m : MMach) (s : MInstr) (i : Nat) : Bool := atI s.operands (fun o => zez m s i o) i
theorem zww {m : MMach} {s : MInstr} {i : Nat} (h : i < s.operands.length) : opI m s i = zez m s i s.operands[i] := by
 simp only [opI, atI, List.getElem?_eq_getElem h]
theorem yadb (m : MMach) (hB : Bd m) (s : MInstr) (hs : JOk s) : ∀ i, i ≤ s.operands.length → lim (some [2, 3]) 0 (blk 2 (om Tryz.prog ⟨82, none⟩ 0 (.loop (lpb Tryz.f82 1)) ⟨⟨123, [(2, .ptr 0 0), (3, .ptr 1 0), (6, .int .i64 i)]⟩, [], miH m s⟩)) =
  bif zb9 (opI m s) i s.operands.length then some (.normal, ⟨⟨123, [(2, .ptr 0 0), (3, .ptr 1 0)]⟩, [], miH m s⟩) else some (.ret, ⟨⟨123, [(4, .bool false)]⟩, [], ⟨0, []⟩⟩) := by
 have hl := hs.i.o
 refine zb8 ?_ (fun i h ih => ?_) <;> rw [zae]
 ·simp (maxSteps := 1000000) -implicitDefEqProofs only [↓reduceIte, ↓cond_true, ↓cond_false, sr1, sr2, kA, seval, d82, ziz, zey, n82, zjc, zjd, e82, zba]
 ·have hO := zub m hB s (by omega) i h (hs.i.p _ (List.getElem_mem h)) (hs.i.n _ (List.getElem_mem h))
  simp only [zac, zad, zaf] at hO
  rw [zbr h, zww h]
  cases hx : zez m s i s.operands[i] with
  | true =>
   rw [hx] at hO
   simp (maxSteps := 1000000) -implicitDefEqProofs only [↓reduceIte, ↓cond_true, ↓cond_false, sr1, sr2, kA, seval, d82, ziz, zey, n82, zjc, zjd, e82, dlt_t h, wi_nat (show i < 2 ^ 62 by omega), hO, ih]
  | false =>
   rw [hx] at hO
   simp (maxSteps := 1000000) -implicitDefEqProofs only [↓reduceIte, ↓cond_true, ↓cond_false, sr1, sr2, kA, seval, d82, ziz, zey, n82, zjc, zjd, e82, dlt_t h, hO]
def cnF (k : Int) (c : Nat) (l : List MEff) : Nat := c + l.countP fun x => decide (x.kind = k)
def resI (m : MMach) (s : MInstr) (l : List MEff) (a b : Nat) : Rx :=
 bif l.all (zos m s) then some (.normal, ⟨⟨123, [(2, .ptr 0 0), (3, .ptr 1 0), (7, .int .i64 (cnF 3 a l)), (8, .int .i64 (cnF 4 b l))]⟩, [], miH m s⟩) else some (.ret, ⟨⟨123, [(4, .bool false)]⟩, [], ⟨0, []⟩⟩)
theorem zz1 {k : Int} {c : Nat} {x : MEff} {l : List MEff} : cnF k c (x :: l) = cnF k (c + if x.kind = k then 1 else 0) l := by
 unfold cnF
 rw [List.countP_cons]
 by_cases h : x.kind = k <;> simp [h] <;> omega
theorem yadc (m : MMach) (s : MInstr) (hs : JOk s) (hc : Ctx8 m s) : ∀ i, i ≤ s.effects.length → ∀ a b : Nat, a + (s.effects.length - i) ≤ 1000000 → b + (s.effects.length - i) ≤ 1000000 → lim (some [2, 3, 7, 8]) 0 (blk 4 (om Tryz.prog ⟨82, none⟩ 0 (.loop (lpb Tryz.f82 2)) ⟨⟨123, [(2, .ptr 0 0), (3, .ptr 1 0), (7, .int .i64 a), (8, .int .i64 b), (9, .int .i64 i)]⟩, [], miH m s⟩)) = resI m s (s.effects.drop i) a b := by
 have hl := hs.i.e
 refine zb8 (fun a b ha hb => ?_) (fun i h ih a b ha hb => ?_) <;> rw [zae]
 ·simp (maxSteps := 1000000) -implicitDefEqProofs only [↓reduceIte, ↓cond_true, ↓cond_false, sr1, sr2, kA, seval, d82, ziz, zey, n82, zjc, zjd, e82, List.drop_length, resI, cnF, List.countP_nil]
 ·have hE := yag4 m s hc s.effects[i] (hs.x _ (List.getElem_mem h))
  simp only [zac, zad, zaf, zcp] at hE
  rw [List.drop_eq_getElem_cons h]
  have eR : ∀ a b : Nat, resI m s (s.effects[i] :: s.effects.drop (i + 1)) a b = bif zos m s s.effects[i] then resI m s (s.effects.drop (i + 1)) (a + if s.effects[i].kind = 3 then 1 else 0) (b + if s.effects[i].kind = 4 then 1 else 0) else some (.ret, ⟨⟨123, [(4, .bool false)]⟩, [], ⟨0, []⟩⟩) := fun a b => by
   unfold resI
   rw [List.all_cons, zz1, zz1]
   cases zos m s s.effects[i] <;> rfl
  rw [eR]
  cases hx : zos m s s.effects[i] with
  | false =>
   rw [hx] at hE
   simp (maxSteps := 1000000) -implicitDefEqProofs only [↓reduceIte, ↓cond_true, ↓cond_false, sr1, sr2, kA, seval, d82, ziz, zey, n82, zjc, zjd, e82, dlt_t h, ix_sl zab h, zcp, hE]
  | true =>
   rw [hx] at hE
   cases h3 : decide (s.effects[i].kind = 3) with
   | true =>
    have h3' := of_decide_eq_true h3
    have h4 : decide (s.effects[i].kind = 4) = false := decide_eq_false (by omega)
    have h4' := of_decide_eq_false h4
    have L := ih (a + 1) b (by omega) (by omega)
    rw [if_pos h3', if_neg h4', Nat.add_zero]
    simp (maxSteps := 1000000) -implicitDefEqProofs only [↓reduceIte, ↓cond_true, ↓cond_false, sr1, sr2, kA, seval, d82, ziz, zey, n82, zjc, zjd, e82, dlt_t h, wi_nat (show i < 2 ^ 62 by omega), wi_nat (show a < 2 ^ 62 by omega), ix_sl zab h, zcp, hE, h3, h4, L]
   | false =>
    have h3' := of_decide_eq_false h3
    cases h4 : decide (s.effects[i].kind = 4) with
    | true =>
     have h4' := of_decide_eq_true h4
     have L := ih a (b + 1) (by omega) (by omega)
     rw [if_neg h3', if_pos h4', Nat.add_zero]
     simp (maxSteps := 1000000) -implicitDefEqProofs only [↓reduceIte, ↓cond_true, ↓cond_false, sr1, sr2, kA, seval, d82, ziz, zey, n82, zjc, zjd, e82, dlt_t h, wi_nat (show i < 2 ^ 62 by omega), wi_nat (show b < 2 ^ 62 by omega), ix_sl zab h, zcp, hE, h3, h4, L]
    | false =>
     have h4' := of_decide_eq_false h4
     have L := ih a b (by omega) (by omega)
     rw [if_neg h3', if_neg h4', Nat.add_zero, Nat.add_zero]
     simp (maxSteps := 1000000) -implicitDefEqProofs only [↓reduceIte, ↓cond_true, ↓cond_false, sr1, sr2, kA, seval, d82, ziz, zey, n82, zjc, zjd, e82, dlt_t h, wi_nat (show i < 2 ^ 62 by omega), ix_sl zab h, zcp, hE, h3, h4, L]
def yamr (m : MMach) (s : MInstr) : Bool := !(decide (1 < (zrj 3 s : Int)) || (decide (0 < (zrj 4 s : Int)) && decide (1 < (s.effects.length : Int)))) && (inR s.unit 0 ((m.units.length : Int) - 1) && (inR s.busy 1 15 && (inR s.latency 1 15 && (inR s.slots 0 2 && (decide (s.slots = 0) || decide ((zrj 3 s : Int) = 1))))))
def zkp (m : MMach) (s : MInstr) (W : Nat) : Bool := decide (s.mask / (2 ^ W : Nat) = 0) && (zb9 (matI s) 0 64 && (zb9 (opI m s) 0 s.operands.length && (zb9 (zh6 s) 0 W && (s.effects.all (zos m s) && yamr m s))))
theorem ya0j {m : MMach} (h1 : 1 ≤ m.word) (h2 : m.word ≤ 4) {s : MInstr} (h : zb9 (opI m s) 0 s.operands.length = true) : PcOk s := by
 intro o ho p hp
 obtain ⟨i, hi, rfl⟩ := List.getElem_of_mem ho
 have hq := zbe.1 h i (Nat.zero_le _) hi
 rw [zww hi] at hq
 simp only [zez, Bool.and_eq_true] at hq
 have hk := List.all_eq_true.1 hq.1.2.2 p hp
 have e8 : IntKind.i64.wrap (8 * m.word) = 8 * m.word := zjp (by omega) (by omega)
 simp only [zhv, e8, Bool.not_or, Bool.not_not, Bool.and_eq_true, inR, decide_eq_true_eq] at hk
 have e9 : IntKind.i64.wrap (8 * m.word - p.len) = 8 * m.word - p.len := zjp (by omega) (by omega)
 rw [e9] at hk
 omega
theorem yaue {m : MMach} (hb : zev m = true) {s : MInstr} (h : zb9 (opI m s) 0 s.operands.length = true) : ∀ o ∈ s.operands, o.kind = 1 → zgx m o := by
 intro o ho hk
 obtain ⟨i, hi, rfl⟩ := List.getElem_of_mem ho
 have hq := zbe.1 h i (Nat.zero_le _) hi
 rw [zww hi] at hq
 simp only [zez, zc4, Bool.and_eq_true, hk, decide_true, cond_true] at hq
 exact yaew hb hq.2.2.1.1
theorem zyp (m : MMach) (hB : Bd m) (h1 : 1 ≤ m.word) (h2 : m.word ≤ 4) (hN : ∀ r ∈ m.regs, r.name.size < 1000000) (hb : zev m = true) (s : MInstr) (hs : JOk s) (W : Nat) (hW : 8 * m.word = (W : Int)) : zaq Tryz.prog (om Tryz.prog) 82 [zac m, zaf s] ⟨0, []⟩ = some (.bool (zkp m s W), ⟨0, []⟩) := by
 have e8 : IntKind.i64.wrap (8 * m.word) = (W : Int) := by rw [zjp (by omega) (by omega), hW]
 have hBl := zvc W (by omega) s.mask hs.m0 hs.m1
 have L0 := yada m s hs 0 (Nat.zero_le _)
 have L1 := yadb m hB s hs 0 (Nat.zero_le _)
 have hl := hs.i.o
 simp only [Int.natCast_zero, miH] at L0 L1
 unfold zkp
 rw [yaxx _ _ (by simp)]
 cases c0 : decide (s.mask / (2 ^ W : Nat) = 0) with
 | false =>
  rw [c0] at hBl
  simp (maxSteps := 1000000) -implicitDefEqProofs only [↓reduceIte, ↓cond_true, ↓cond_false, sr1, sr2, kA, seval, d82, ziz, zey, n82, zjc, zjd, e82, zac, zad, zaf, e8, hBl]
 | true =>
  rw [c0] at hBl
  cases c1 : zb9 (matI s) 0 64 with
  | false =>
   rw [c1] at L0
   simp (maxSteps := 1000000) -implicitDefEqProofs only [↓reduceIte, ↓cond_true, ↓cond_false, sr1, sr2, kA, seval, d82, ziz, zey, n82, zjc, zjd, e82, zac, zad, zaf, e8, hBl, L0]
  | true =>
   rw [c1] at L0
   cases c2 : zb9 (opI m s) 0 s.operands.length with
   | false =>
    rw [c2] at L1
    simp (maxSteps := 1000000) -implicitDefEqProofs only [↓reduceIte, ↓cond_true, ↓cond_false, sr1, sr2, kA, seval, d82, ziz, zey, n82, zjc, zjd, e82, zac, zad, zaf, e8, hBl, L0, L1]
   | true =>
    rw [c2] at L1
    have hc : Ctx8 m s := ⟨hB, hN, by omega, yaue hb c2⟩
    have hA := yaeu m s (ya0j h1 h2 c2) hl hs.i.p hs.m0 hs.m1 W e8 (by omega)
    have L2 := yadc m s hs hc 0 (Nat.zero_le _) 0 0 (by have := hs.i.e; omega) (by have := hs.i.e; omega)
    have e3 : cnF 3 0 s.effects = zrj 3 s := by unfold cnF zrj; omega
    have e4 : cnF 4 0 s.effects = zrj 4 s := by unfold cnF zrj; omega
    simp only [zac, zad, zaf] at hA
    simp only [Int.natCast_zero, List.drop_zero, resI, miH, e3, e4] at L2
    cases c3 : zb9 (zh6 s) 0 W with
    | false =>
     rw [c3] at hA
     simp (maxSteps := 1000000) -implicitDefEqProofs only [↓reduceIte, ↓cond_true, ↓cond_false, sr1, sr2, kA, seval, d82, ziz, zey, n82, zjc, zjd, e82, zac, zad, zaf, e8, hBl, L0, L1, hA]
    | true =>
     rw [c3] at hA
     cases c4 : s.effects.all (zos m s) with
     | false =>
      rw [c4] at L2
      simp (maxSteps := 1000000) -implicitDefEqProofs only [↓reduceIte, ↓cond_true, ↓cond_false, sr1, sr2, kA, seval, d82, ziz, zey, n82, zjc, zjd, e82, zac, zad, zaf, e8, hBl, L0, L1, hA, L2]
     | true =>
      rw [c4] at L2
      simp (maxSteps := 1000000) -implicitDefEqProofs only [↓reduceIte, ↓cond_true, ↓cond_false, sr1, sr2, kA, seval, d82, ziz, zey, n82, zjc, zjd, e82, zac, zad, zaf, e8, hBl, L0, L1, hA, L2, za3, zas hB.u, yamr, Bool.and_assoc]
structure NOk8 (m : MMach) : Prop where
 b : Bd m
 s : Sd m
 n : m.name.size < 2 ^ 62
 i : ∀ s ∈ m.instrs, JOk s
abbrev ciH (m : MMach) (s : MInstr) : Heap := ⟨2, [some (.cells 27 (zad m)), some (.cells 113 (zi4 s))]⟩
theorem zyz (m : MMach) (hB : Bd m) (i : Nat) (hi : i < m.instrs.length) : ∀ k, k ≤ i → lim (some [1, 3]) 0 (blk 2 (om Tryz.prog ⟨43, none⟩ 0 (.loop (lpb Tryz.f43 1)) ⟨⟨80, [(1, .ptr 0 0), (3, .int .i64 i), (4, .ptr 1 0), (5, .int .i64 k)]⟩, [], ciH m m.instrs[i]⟩)) =
  bif zb9 (fun k => !eqN MInstr.name m.instrs i k) k i then some (.normal, ⟨⟨80, [(1, .ptr 0 0), (3, .int .i64 i)]⟩, [], zeh m⟩) else some (.ret, ⟨⟨80, [(2, .int .i64 8)]⟩, [], ⟨0, []⟩⟩) := by
 have hu := hB.i
 refine zb8 ?_ (fun k h ih => ?_) <;> rw [zae]
 ·simp (maxSteps := 1000000) -implicitDefEqProofs only [↓reduceIte, ↓cond_true, ↓cond_false, sr1, sr2, kA, seval, d43, zcx, n43, ze1, e43, zba]
 ·have hk : k < m.instrs.length := by omega
  rw [zc5 h, zlu hk hi]
  cases hn : decide (m.instrs[k].name = m.instrs[i].name) with
  | true => simp (maxSteps := 1000000) -implicitDefEqProofs only [↓reduceIte, ↓cond_true, ↓cond_false, sr1, sr2, kA, seval, d43, zcx, n43, ze1, e43, dlt_t h, wi_nat (show k < 2 ^ 62 by omega), ix_sl zab hk, zaf, hn]
  | false => simp (maxSteps := 1000000) -implicitDefEqProofs only [↓reduceIte, ↓cond_true, ↓cond_false, sr1, sr2, kA, seval, d43, zcx, n43, ze1, e43, dlt_t h, wi_nat (show k < 2 ^ 62 by omega), ix_sl zab hk, zaf, hn, ih]
theorem zyy (m : MMach) (hm : NOk8 m) (h1 : 1 ≤ m.word) (h2 : m.word ≤ 4) (hN : ∀ r ∈ m.regs, r.name.size < 1000000) (hb : zev m = true) (W : Nat) (hW : 8 * m.word = (W : Int)) : ∀ i, i ≤ m.instrs.length → lim (some []) 0 (blk 0 (om Tryz.prog ⟨43, none⟩ 0 (.loop (lpb Tryz.f43 0)) ⟨⟨80, [(1, .ptr 0 0), (3, .int .i64 i)]⟩, [], zeh m⟩)) =
  bif zb9 (zug MInstr.name (fun _ s => zkp m s W) m.instrs) i m.instrs.length then some (.normal, ⟨⟨80, []⟩, [], ⟨0, []⟩⟩) else some (.ret, ⟨⟨80, [(2, .int .i64 8)]⟩, [], ⟨0, []⟩⟩) := by
 have hu := hm.b.i
 refine zb8 ?_ (fun i h ih => ?_) <;> rw [zae]
 ·simp (maxSteps := 1000000) -implicitDefEqProofs only [↓reduceIte, ↓cond_true, ↓cond_false, sr1, sr2, kA, seval, d43, zcx, n43, ze1, e43, zba]
 ·have L := zyz m hm.b i h 0 (Nat.zero_le _)
  have ej : zb9 (fun k => !eqN MInstr.name m.instrs i k) 0 i = zwp MInstr.name m.instrs i := rfl
  rw [ej] at L
  simp only [Int.natCast_zero] at L
  have hx := List.getElem_mem h
  have hn := zed m.instrs[i].name (hm.s.i _ hx)
  have hI := zyp m hm.b h1 h2 hN hb m.instrs[i] (hm.i _ hx) W hW
  simp only [zac, zad, zaf] at hI
  rw [zbr h, znk h]
  cases c1 : zbm m.instrs[i].name with
  | false => simp (maxSteps := 1000000) -implicitDefEqProofs only [↓reduceIte, ↓cond_true, ↓cond_false, sr1, sr2, kA, seval, d43, zcx, n43, ze1, e43, dlt_t h, ix_sl zab h, zaf, hn, c1]
  | true =>
   cases c2 : zkp m m.instrs[i] W with
   | false =>
    rw [c2] at hI
    simp (maxSteps := 1000000) -implicitDefEqProofs only [↓reduceIte, ↓cond_true, ↓cond_false, sr1, sr2, kA, seval, d43, zcx, n43, ze1, e43, dlt_t h, ix_sl zab h, zaf, hn, c1, hI]
   | true =>
    rw [c2] at hI
    cases c3 : zwp MInstr.name m.instrs i with
    | false =>
     rw [c3] at L
     simp (maxSteps := 1000000) -implicitDefEqProofs only [↓reduceIte, ↓cond_true, ↓cond_false, sr1, sr2, kA, seval, d43, zcx, n43, ze1, e43, dlt_t h, ix_sl zab h, zaf, hn, c1, hI, L]
    | true =>
     rw [c3] at L
     simp (maxSteps := 1000000) -implicitDefEqProofs only [↓reduceIte, ↓cond_true, ↓cond_false, sr1, sr2, kA, seval, d43, zcx, n43, ze1, e43, dlt_t h, wi_nat (show i < 2 ^ 62 by omega), ix_sl zab h, zaf, hn, c1, hI, L, ih]
def yalv (m : MMach) : Int := bif !zk2 m then 4 else bif preB m && zb9 (zug MInstr.name (fun _ s => zkp m s (8 * m.word).toNat) m.instrs) 0 m.instrs.length then 0 else 8
theorem zhw (m : MMach) (hm : NOk8 m) : zaq Tryz.prog (om Tryz.prog) 43 [zac m] ⟨0, []⟩ = some (.int .i64 (yalv m), ⟨0, []⟩) := by
 have hs := zzf m hm.b
 rw [zxi] at hs
 have hn := zed m.name hm.n
 have hR := yade m hm.b hm.s
 have hBk := zyo m hm.b hm.s
 have hU := zyr m hm.b hm.s
 simp only [zac, zad] at hs hR hBk hU
 unfold yalv
 rw [yaw8 _ _ (by simp)]
 cases hc : zk2 m with
 | false => simp (maxSteps := 1000000) -implicitDefEqProofs only [↓reduceIte, ↓cond_true, ↓cond_false, sr1, sr2, kA, seval, d43, zcx, n43, ze1, e43, zac, zad, hs, hc]
 | true =>
 unfold preB
 cases q1 : zbm m.name with
 | false => simp (maxSteps := 1000000) -implicitDefEqProofs only [↓reduceIte, ↓cond_true, ↓cond_false, sr1, sr2, kA, seval, d43, zcx, n43, ze1, e43, zac, zad, hs, hc, hn, za3, q1]
 | true =>
 cases q2 : inR m.word 1 4 with
 | false => simp (maxSteps := 1000000) -implicitDefEqProofs only [↓reduceIte, ↓cond_true, ↓cond_false, sr1, sr2, kA, seval, d43, zcx, n43, ze1, e43, zac, zad, hs, hc, hn, za3, q1, q2]
 | true =>
 have hw : 1 ≤ m.word ∧ m.word ≤ 4 := by simpa [inR] using q2
 cases q4 : zhx m with
 | false =>
  cases qa : decide (m.address = 16) with
  | true => simp (maxSteps := 1000000) -implicitDefEqProofs only [↓reduceIte, ↓cond_true, ↓cond_false, sr1, sr2, kA, seval, d43, zcx, n43, ze1, e43, zac, zad, hs, hc, hn, za3, q1, q2, qa, hR, q4]
  | false =>
   cases qb : decide (m.address = 32) with
   | true => simp (maxSteps := 1000000) -implicitDefEqProofs only [↓reduceIte, ↓cond_true, ↓cond_false, sr1, sr2, kA, seval, d43, zcx, n43, ze1, e43, zac, zad, hs, hc, hn, za3, q1, q2, qa, qb, hR, q4]
   | false => simp (maxSteps := 1000000) -implicitDefEqProofs only [↓reduceIte, ↓cond_true, ↓cond_false, sr1, sr2, kA, seval, d43, zcx, n43, ze1, e43, zac, zad, hs, hc, hn, za3, q1, q2, qa, qb]
 | true =>
 cases q5 : zev m with
 | false =>
  cases qa : decide (m.address = 16) with
  | true => simp (maxSteps := 1000000) -implicitDefEqProofs only [↓reduceIte, ↓cond_true, ↓cond_false, sr1, sr2, kA, seval, d43, zcx, n43, ze1, e43, zac, zad, hs, hc, hn, za3, q1, q2, qa, hR, q4, hBk, q5]
  | false =>
   cases qb : decide (m.address = 32) with
   | true => simp (maxSteps := 1000000) -implicitDefEqProofs only [↓reduceIte, ↓cond_true, ↓cond_false, sr1, sr2, kA, seval, d43, zcx, n43, ze1, e43, zac, zad, hs, hc, hn, za3, q1, q2, qa, qb, hR, q4, hBk, q5]
   | false => simp (maxSteps := 1000000) -implicitDefEqProofs only [↓reduceIte, ↓cond_true, ↓cond_false, sr1, sr2, kA, seval, d43, zcx, n43, ze1, e43, zac, zad, hs, hc, hn, za3, q1, q2, qa, qb]
 | true =>
 cases q6 : goodB.unitsB m with
 | false =>
  cases qa : decide (m.address = 16) with
  | true => simp (maxSteps := 1000000) -implicitDefEqProofs only [↓reduceIte, ↓cond_true, ↓cond_false, sr1, sr2, kA, seval, d43, zcx, n43, ze1, e43, zac, zad, hs, hc, hn, za3, q1, q2, qa, hR, q4, hBk, q5, hU, q6]
  | false =>
   cases qb : decide (m.address = 32) with
   | true => simp (maxSteps := 1000000) -implicitDefEqProofs only [↓reduceIte, ↓cond_true, ↓cond_false, sr1, sr2, kA, seval, d43, zcx, n43, ze1, e43, zac, zad, hs, hc, hn, za3, q1, q2, qa, qb, hR, q4, hBk, q5, hU, q6]
   | false => simp (maxSteps := 1000000) -implicitDefEqProofs only [↓reduceIte, ↓cond_true, ↓cond_false, sr1, sr2, kA, seval, d43, zcx, n43, ze1, e43, zac, zad, hs, hc, hn, za3, q1, q2, qa, qb]
 | true =>
 have hN : ∀ r ∈ m.regs, r.name.size < 1000000 := fun r hx => by
  have q4' := q4
  unfold zhx at q4'
  rw [Bool.and_eq_true] at q4'
  have := zwo (zg7 q4'.2 hx).1
  omega
 have L := zyy m hm hw.1 hw.2 hN q5 (8 * m.word).toNat (by omega) 0 (Nat.zero_le _)
 simp only [Int.natCast_zero] at L
 generalize zb9 (zug MInstr.name (fun _ s => zkp m s (8 * m.word).toNat) m.instrs) 0 m.instrs.length = A at L ⊢
 cases qa : decide (m.address = 16) with
 | true =>
  cases A with
  | true => simp (maxSteps := 1000000) -implicitDefEqProofs only [↓reduceIte, ↓cond_true, ↓cond_false, sr1, sr2, kA, seval, d43, zcx, n43, ze1, e43, zac, zad, hs, hc, hn, za3, q1, q2, qa, hR, q4, hBk, q5, hU, q6, L]
  | false => simp (maxSteps := 1000000) -implicitDefEqProofs only [↓reduceIte, ↓cond_true, ↓cond_false, sr1, sr2, kA, seval, d43, zcx, n43, ze1, e43, zac, zad, hs, hc, hn, za3, q1, q2, qa, hR, q4, hBk, q5, hU, q6, L]
 | false =>
  cases qb : decide (m.address = 32) with
  | true =>
   cases A with
   | true => simp (maxSteps := 1000000) -implicitDefEqProofs only [↓reduceIte, ↓cond_true, ↓cond_false, sr1, sr2, kA, seval, d43, zcx, n43, ze1, e43, zac, zad, hs, hc, hn, za3, q1, q2, qa, qb, hR, q4, hBk, q5, hU, q6, L]
   | false => simp (maxSteps := 1000000) -implicitDefEqProofs only [↓reduceIte, ↓cond_true, ↓cond_false, sr1, sr2, kA, seval, d43, zcx, n43, ze1, e43, zac, zad, hs, hc, hn, za3, q1, q2, qa, qb, hR, q4, hBk, q5, hU, q6, L]
  | false => simp (maxSteps := 1000000) -implicitDefEqProofs only [↓reduceIte, ↓cond_true, ↓cond_false, sr1, sr2, kA, seval, d43, zcx, n43, ze1, e43, zac, zad, hs, hc, hn, za3, q1, q2, qa, qb]
set_option maxRecDepth 10000
theorem yau7 (a b : Int) (i : Nat) : tb (zm7 a b) i = (tb a i && !tb b i) := by
 unfold tb zm7
 rw [zxy, BitVec.getLsbD_and, BitVec.getLsbD_not]
 by_cases hi : i < 64
 ·simp [hi]
 ·have : (BitVec.ofInt 64 a).getLsbD i = false := BitVec.getLsbD_of_ge _ _ (by omega)
  simp [this]
theorem zxs (a b : Int) : decide (zm7 a b = 0) = true ↔ ∀ i, tb a i = true → tb b i = true := by
 have e : zm7 a b = (((BitVec.ofInt 64 a &&& ~~~ BitVec.ofInt 64 b).toNat : Nat) : Int) := by
  unfold zm7; exact zh5 _ (BitVec.isLt _)
 rw [decide_eq_true_iff]
 constructor
 ·intro h i hi
  have := yau7 a b i
  rw [h, tb_0, hi] at this
  simpa using this.symm
 ·intro h
  have h0 : (BitVec.ofInt 64 a &&& ~~~ BitVec.ofInt 64 b) = 0 := by
   apply BitVec.eq_of_getLsbD_eq
   intro i hi
   rw [BitVec.getLsbD_and, BitVec.getLsbD_not]
   have := h i
   unfold tb at this
   simp [hi]
   exact this
  rw [e, h0]; rfl
theorem ya6a {a : Int} {i : Nat} (h : tb a i = true) : i < 64 := by
 by_cases hi : i < 64
 ·exact hi
 ·unfold tb at h
  rw [BitVec.getLsbD_of_ge _ _ (by omega)] at h; cases h
theorem zy8 {n : Nat} (h1 : 1 ≤ n) (h2 : n ≤ 64) (i : Nat) : tb (zcb (n : Int)) i = decide (i < n) := by
 rw [zeb h1 h2, zsu (Nat.lt_of_lt_of_le (Nat.sub_lt (Nat.two_pow_pos n) (by decide)) (Nat.pow_le_pow_right (by decide) h2)), Nat.testBit_two_pow_sub_one]
theorem zzt {x : Int} (h0 : 0 ≤ x) (hx : x < 2 ^ 64) {W : Nat} (h1 : 1 ≤ W) (h2 : W ≤ 64) : decide (x / (2 ^ W : Nat) = 0) = decide (zm7 x (zcb (W : Int)) = 0) := by
 obtain ⟨n, rfl⟩ := Int.eq_ofNat_of_zero_le h0
 have hn : n < 2 ^ 64 := by omega
 rw [Bool.eq_iff_iff, zxs, decide_eq_true_iff]
 have e : ((n : Int) / ((2 ^ W : Nat) : Int) = 0) ↔ n < 2 ^ W := by
  have p := Nat.two_pow_pos W
  constructor
  ·intro h
   have h' : ((n / 2 ^ W : Nat) : Int) = 0 := by rw [Int.natCast_ediv]; exact h
   have h'' : n / 2 ^ W = 0 := by omega
   rcases Nat.div_eq_zero_iff.1 h'' with h | h
   ·omega
   ·exact h
  ·intro h
   have : n / 2 ^ W = 0 := Nat.div_eq_of_lt h
   rw [← Int.natCast_ediv, this]; rfl
 rw [e]
 constructor
 ·intro h i hi
  rw [zsu hn] at hi
  rw [zy8 h1 h2]
  by_cases q : i < W
  ·exact decide_eq_true q
  ·have : n < 2 ^ i := Nat.lt_of_lt_of_le h (Nat.pow_le_pow_right (by decide) (by omega))
   rw [Nat.testBit_lt_two_pow this] at hi; cases hi
 ·intro h
  refine Nat.lt_pow_two_of_testBit n fun i hi => ?_
  cases q : n.testBit i with
  | false => rfl
  | true =>
   have := h i (by rw [zsu hn]; exact q)
   rw [zy8 h1 h2] at this
   have := of_decide_eq_true this
   omega
theorem yaz2 {s : MInstr} (hs : JOk s) : zb9 (matI s) 0 64 = decide (zm7 s.mat s.mask = 0) := by
 rw [Bool.eq_iff_iff, zxs, zbe]
 have e : ∀ b, matI s b = (tb s.mask b || !tb s.mat b) := fun b => by
  unfold matI
  rw [zxt hs.m0 hs.m1, zxt hs.a0 hs.a1]
  cases tb s.mask b <;> cases tb s.mat b <;> rfl
 constructor
 ·intro h i hi
  have := h i (Nat.zero_le _) (ya6a hi)
  rw [e, hi] at this
  simpa using this
 ·intro h i _ _
  rw [e]
  cases q : tb s.mat i with
  | false => simp
  | true => rw [h i q]; rfl
theorem ya0b {α : Type} {nm : α → ByteArray} {us : List α} {j : Nat} (hj : j < us.length) : newI nm us j = zwp nm us j := by
 simp only [newI, zwp, List.getElem?_eq_getElem hj]
 rw [Bool.eq_iff_iff, zbe, zbe]
 constructor
 ·intro h k _ hk
  have := h k (Nat.zero_le _) hk
  rw [List.getElem?_eq_getElem (show k < us.length by omega)] at this
  rw [zlu (show k < us.length by omega) hj]
  exact this
 ·intro h k _ hk
  have := h k (Nat.zero_le _) hk
  rw [zlu (show k < us.length by omega) hj] at this
  rw [List.getElem?_eq_getElem (show k < us.length by omega)]
  exact this
theorem yamk {w : Int} {p : MPiece} : (!zhv w p) = zej w p := by
 unfold zhv zej
 rw [Bool.not_or, Bool.not_not, Bool.not_not]; rfl
theorem yaif {m : MMach} {s : MInstr} : seqF MOpd.name (opQ m s) 0 s.operands [pcN] = zb9 (opI m s) 0 s.operands.length := by
 rw [yaby, Bool.eq_iff_iff, zbe, zbe]
 have key : ∀ i, i < s.operands.length → (atI s.operands (fun u => zbm u.name && opQ m s i u && !zn3 [pcN] u.name) i && newI MOpd.name s.operands i) = opI m s i := by
  intro i hi
  rw [zww hi, ya0b hi]
  simp only [atI, List.getElem?_eq_getElem hi, zez, opQ, zmo, zn3, List.any_cons, List.any_nil, Bool.or_false]
  have : (s.operands[i].pieces.all fun x => !zhv m.word x) = s.operands[i].pieces.all (zej m.word) := by
   congr 1; funext p; exact yamk
  rw [this]
  generalize zbm s.operands[i].name = a
  generalize decide (s.operands[i].name = pcN) = b
  generalize s.operands[i].pieces.all (zej m.word) = c
  generalize zc4 m s i s.operands[i] = d
  generalize zwp MOpd.name s.operands i = e
  cases a <;> cases b <;> cases c <;> cases d <;> cases e <;> rfl
 exact ⟨fun h j hj hn => by rw [← key j hn]; exact h j hj hn, fun h j hj hn => by rw [key j hn]; exact h j hj hn⟩
theorem zx4 {l : List MPiece} {b : Nat} (h : zgz l b ≠ 0) : ∃ p ∈ l, pin p b = true := by
 have : 0 < l.countP fun p => pin p b := by unfold zgz at h; omega
 rw [List.countP_pos_iff] at this
 exact this
theorem ya0m {m : MMach} (h1 : 1 ≤ m.word) (h2 : m.word ≤ 4) {s : MInstr} (hs : JOk s) {W : Nat} (hW : 8 * m.word = (W : Int)) (hb : decide (s.mask / (2 ^ W : Nat) = 0) = true) :
  (zb9 (opI m s) 0 s.operands.length && zb9 (zh6 s) 0 W) = (zyt m s 0 s.operands true [pcN] s.mask).1 := by
 rw [Bool.eq_iff_iff, Bool.and_eq_true, zmm h1 h2, yaif]
 simp only [true_and]
 constructor
 ·rintro ⟨ha, hp⟩
  refine ⟨ha, fun b => ?_⟩
  by_cases hbW : b < W
  ·have := zbe.1 hp b (Nat.zero_le _) hbW
   unfold zh6 at this
   simp only [Bool.not_eq_true', decide_eq_false_iff_not] at this
   omega
  ·have hm : tb s.mask b = false := by
    cases q : tb s.mask b with
    | false => rfl
    | true =>
     rw [zzt hs.m0 hs.m1 (by omega) (by omega), zxs] at hb
     have := hb b q
     rw [zy8 (by omega) (by omega)] at this
     have := of_decide_eq_true this
     omega
   have hc : zgz (zzj s.operands) b = 0 := by
    by_cases q : zgz (zzj s.operands) b = 0
    ·exact q
    ·obtain ⟨p, hp1, hp2⟩ := zx4 q
     obtain ⟨o, ho, hpo⟩ := List.mem_flatMap.1 hp1
     obtain ⟨i, hi, rfl⟩ := List.getElem_of_mem ho
     have hq := zbe.1 ha i (Nat.zero_le _) hi
     rw [zww hi] at hq
     simp only [zez, Bool.and_eq_true] at hq
     have hk := List.all_eq_true.1 hq.1.2.2 p hpo
     have e8 : IntKind.i64.wrap (8 * m.word) = 8 * m.word := zjp (by omega) (by omega)
     simp only [zhv, e8, Bool.not_or, Bool.not_not, Bool.and_eq_true, inR, decide_eq_true_eq] at hk
     have e9 : IntKind.i64.wrap (8 * m.word - p.len) = 8 * m.word - p.len := zjp (by omega) (by omega)
     rw [e9] at hk
     simp only [pin, Bool.and_eq_true, decide_eq_true_eq] at hp2
     omega
   rw [hm, hc]; decide
 ·rintro ⟨ha, hp⟩
  refine ⟨ha, zbe.2 fun b _ hbW => ?_⟩
  have := hp b
  unfold zh6
  simp only [Bool.not_eq_true', decide_eq_false_iff_not]
  omega
theorem yaup {m : MMach} {s : MInstr} : yamr m s = zui m s := by
 unfold yamr zui
 have hle : zrj 4 s ≤ s.effects.length := List.countP_le_length
 have e : (!(decide (1 < (zrj 3 s : Int)) || (decide (0 < (zrj 4 s : Int)) && decide (1 < (s.effects.length : Int))))) = (decide ((zrj 3 s : Int) ≤ 1) && (decide ((zrj 4 s : Int) = 0) || decide ((s.effects.length : Int) = 1))) := by
  rw [Bool.eq_iff_iff]
  simp only [Bool.not_eq_true', Bool.or_eq_false_iff, Bool.and_eq_false_iff, decide_eq_false_iff_not, Bool.and_eq_true, decide_eq_true_eq, Bool.or_eq_true]
  omega
 rw [e, Bool.and_assoc]
theorem yaoj {α : Type} {nm : α → ByteArray} {q : Nat → α → Bool} {us : List α} {acc : List ByteArray} (h : seqF nm q 0 us acc = true) : Dis nm us ∧ ∀ u ∈ us, zn3 acc (nm u) = false := by
 rw [zmv] at h
 constructor
 ·unfold Dis
  rw [List.pairwise_iff_getElem]
  intro i j hi hj hij
  obtain ⟨_, _, _, h4⟩ := h j us[j] (List.getElem?_eq_getElem hj)
  exact h4 i us[i] hij (List.getElem?_eq_getElem hi)
 ·intro u hu
  obtain ⟨i, hi, rfl⟩ := List.getElem_of_mem hu
  exact (h i us[i] (List.getElem?_eq_getElem hi)).2.2.1
theorem yalf {m : MMach} (h1 : 1 ≤ m.word) (h2 : m.word ≤ 4) (hr : zhx m = true) {s : MInstr} (hs : JOk s) {W : Nat} (hW : 8 * m.word = (W : Int)) : zkp m s W = zia m s := by
 have e8 : IntKind.i64.wrap (8 * m.word) = (W : Int) := by rw [zjp (by omega) (by omega), hW]
 unfold zkp zia
 rw [e8, ← zzt hs.m0 hs.m1 (by omega) (by omega), yaz2 hs]
 cases hb : decide (s.mask / (2 ^ W : Nat) = 0) with
 | false => rfl
 | true =>
  have ho := ya0m h1 h2 hs hW hb
  cases hm : decide (zm7 s.mat s.mask = 0) with
  | false => rfl
  | true =>
   simp only [Bool.true_and]
   rw [← ho]
   cases ha : zb9 (opI m s) 0 s.operands.length with
   | false => rfl
   | true =>
    cases hp : zb9 (zh6 s) 0 W with
    | false => rfl
    | true =>
     simp only [Bool.true_and]
     rw [yaup]
     congr 1
     rw [← yaif] at ha
     obtain ⟨d1, d2⟩ := yaoj ha
     have hr' := hr
     unfold zhx at hr'
     rw [Bool.and_eq_true, zeq (i := 0)] at hr'
     obtain ⟨d3, _⟩ := yaoj hr'.2
     have hpc : ∀ o ∈ s.operands, o.name ≠ pcN := fun o ho e => by
      have := d2 o ho
      rw [zg2] at this
      exact this pcN (by simp) e.symm
     have key : ∀ x ∈ s.effects, zos m s x = zrm m s (varT m s) x := fun x hx =>
      yayy m s x ⟨(hs.x x hx).a.k, (hs.x x hx).v.k, (hs.x x hx).c.k⟩ d1 hpc d3
     rw [Bool.eq_iff_iff, List.all_eq_true, List.all_eq_true]
     exact ⟨fun h x hx => by rw [← key x hx]; exact h x hx, fun h x hx => by rw [key x hx]; exact h x hx⟩
theorem zyk (m : MMach) (hm : NOk8 m) : yalv m = zb1 m := by
 unfold yalv zb1
 rw [zi1]
 cases hp : preB m with
 | false => rfl
 | true =>
  have hp2 := hp
  unfold preB at hp2
  simp only [Bool.and_eq_true] at hp2
  obtain ⟨⟨q1, q2, q3⟩, q4, q5, q6⟩ := hp2
  have hw : 1 ≤ m.word ∧ m.word ≤ 4 := by simpa [inR] using q2
  simp only [Bool.true_and]
  have e : zb9 (zug MInstr.name (fun _ s => zkp m s (8 * m.word).toNat) m.instrs) 0 m.instrs.length = zi5 m := by
   unfold zi5
   rw [zeq (i := 0), ← zo3, Bool.eq_iff_iff, zbe, zbe]
   have key : ∀ j, j < m.instrs.length → zug MInstr.name (fun _ s => zkp m s (8 * m.word).toNat) m.instrs j = zug MInstr.name (fun _ => zia m) m.instrs j := by
    intro j hj
    rw [znk hj, znk hj]
    congr 2
    exact yalf hw.1 hw.2 q4 (hm.i _ (List.getElem_mem hj)) (by omega)
   exact ⟨fun h j hj hn => by rw [← key j hn]; exact h j hj hn, fun h j hj hn => by rw [key j hn]; exact h j hj hn⟩
  rw [e]
structure Sv where
 a : Option Addr
 c : Nat
 z : Nat
structure SvOk (v : Sv) (sz n : Nat) : Prop where
 a : 0 < n → v.a.isSome = true
 z : 0 < n → v.z = sz
theorem ya5r {α : Type} {f : α → AV} {v : Sv} {sz : Nat} {l : List α} (h : SvOk v sz l.length) : okS v.a (l.map f) = true := by
 cases l with
 | nil => simp [okS]
 | cons x l => have := h.a (by simp); simp [okS, this]
theorem zl7 {α : Type} {f : α → AV} {v : Sv} {sz i : Nat} {l : List α} {k : IntKind} (hv : SvOk v sz l.length) (h : i < l.length) : ixA sz (.rsl v.a v.c v.z (l.map f)) (.int k (i : Int)) = some (.rptr (adr v.a (i * sz)) (f l[i]).cells) := by
 have hz := hv.z (by omega)
 rw [hz]
 exact Go.Proofs.YtcfcphhamfhfcaaGreatDoor.v.ix_sl (ya5r hv) h
structure MCell where
 at_ : Int
 byte : Int
def za0 (c : MCell) : AV := .agg [.int .u64 c.at_, .int .u8 c.byte]
def zcc (n : Int) : AV := .int .u64 n
structure MState where
 regs : List Int
 mem : List MCell
 pc : Int
 cycles : Int
def stV (r v : Sv) (s : MState) : AV := .agg [.rsl r.a r.c r.z (s.regs.map zcc), .rsl v.a v.c v.z (s.mem.map za0), .int .u64 s.pc, .int .i64 s.cycles]
def zxl (l : List MCell) : Nat → Bool
 | 0 => match l[0]? with | some c => decide (c.byte = 0) | none => false
 | j + 1 => match l[j + 1]?, l[j]? with | some c, some p => decide (c.byte = 0) || decide (c.at_ ≤ p.at_) | _, _ => false
def zh8 (l : List MCell) : Bool := decide ((l.length : Int) ≤ 4096) && zb9 (fun i => !zxl l i) 0 l.length
theorem zrd {j : Nat} (h : j < 2 ^ 62) : IntKind.i64.wrap (((j + 1 : Nat) : Int) - 1) = (j : Int) := by
 rw [zjp (by omega) (by omega)]; omega
theorem yast (v : Sv) (l : List MCell) (hv : SvOk v 2 l.length) (hl : l.length < 2 ^ 62) : ∀ i, i ≤ l.length → lim (some []) 0 (blk 0 (om Tryz.prog ⟨93, none⟩ 0 (.loop (lpb Tryz.f93 0)) ⟨⟨34, [(0, .rsl v.a v.c v.z (l.map za0)), (8, .rsl v.a v.c v.z (l.map za0)), (9, .int .i64 l.length), (10, .int .i64 i)]⟩, [], ⟨0, []⟩⟩)) =
  bif zb9 (fun i => !zxl l i) i l.length then some (.normal, ⟨⟨34, []⟩, [], ⟨0, []⟩⟩) else some (.ret, ⟨⟨34, [(2, .int .i64 8)]⟩, [], ⟨0, []⟩⟩) := by
 refine zb8 ?_ (fun i h ih => ?_) <;> rw [zae]
 ·simp (maxSteps := 1000000) -implicitDefEqProofs only [↓reduceIte, ↓cond_true, ↓cond_false, sr1, sr2, kA, seval, d93, ztw, n93, e93, zba]
 ·rw [zc5 h]
  cases i with
  | zero =>
   have e : zxl l 0 = decide (l[0].byte = 0) := by simp only [zxl, List.getElem?_eq_getElem h]
   have hx := zl7 (f := za0) (k := .i64) hv h
   have hd : decide ((0 : Int) < (l.length : Int)) = true := decide_eq_true (by omega)
   simp only [Int.natCast_zero, Nat.zero_add, Int.natCast_one] at hx ih ⊢
   rw [e]
   cases hb : decide (l[0].byte = 0) with
   | true => simp (maxSteps := 1000000) -implicitDefEqProofs only [↓reduceIte, ↓cond_true, ↓cond_false, sr1, sr2, kA, seval, d93, ztw, n93, e93, hd, hx, za0, hb]
   | false => simp (maxSteps := 1000000) -implicitDefEqProofs only [↓reduceIte, ↓cond_true, ↓cond_false, sr1, sr2, kA, seval, d93, ztw, n93, e93, hd, hx, za0, hb, ih]
  | succ j =>
   have e : zxl l (j + 1) = (decide (l[j + 1].byte = 0) || decide (l[j + 1].at_ ≤ l[j].at_)) := by simp only [zxl, List.getElem?_eq_getElem h, List.getElem?_eq_getElem (show j < l.length by omega)]
   have hx := zl7 (f := za0) (k := .i64) hv h
   have hy := zl7 (f := za0) (k := .i64) hv (show j < l.length by omega)
   have h0 : decide ((0 : Int) < ((j + 1 : Nat) : Int)) = true := decide_eq_true (by omega)
   rw [e]
   cases hb : decide (l[j + 1].byte = 0) with
   | true => simp (maxSteps := 1000000) -implicitDefEqProofs only [↓reduceIte, ↓cond_true, ↓cond_false, sr1, sr2, kA, seval, d93, ztw, n93, e93, dlt_t h, hx, za0, hb]
   | false =>
    cases ha : decide (l[j + 1].at_ ≤ l[j].at_) with
    | true => simp (maxSteps := 1000000) -implicitDefEqProofs only [↓reduceIte, ↓cond_true, ↓cond_false, sr1, sr2, kA, seval, d93, ztw, n93, e93, dlt_t h, hx, hy, h0, zrd (show j < 2 ^ 62 by omega), za0, hb, ha]
    | false => simp (maxSteps := 1000000) -implicitDefEqProofs only [↓reduceIte, ↓cond_true, ↓cond_false, sr1, sr2, kA, seval, d93, ztw, n93, e93, dlt_t h, wi_nat (show j + 1 < 2 ^ 62 by omega), hx, hy, h0, zrd (show j < 2 ^ 62 by omega), za0, hb, ha, ih]
theorem zvn (v : Sv) (l : List MCell) (hv : SvOk v 2 l.length) (hl : l.length < 2 ^ 62) : zaq Tryz.prog (om Tryz.prog) 93 [.rsl v.a v.c v.z (l.map za0)] ⟨0, []⟩ = some (.int .i64 (bif zh8 l then 0 else 8), ⟨0, []⟩) := by
 have L := yast v l hv hl 0 (Nat.zero_le _)
 simp only [Int.natCast_zero] at L
 have en : decide ((4096 : Int) < (l.length : Int)) = !decide ((l.length : Int) ≤ 4096) := by rw [zbg, Bool.not_not]
 unfold zh8
 rw [yax6 _ _ (by simp)]
 cases hc : decide ((l.length : Int) ≤ 4096) with
 | false => simp (maxSteps := 1000000) -implicitDefEqProofs only [↓reduceIte, ↓cond_true, ↓cond_false, sr1, sr2, kA, seval, d93, ztw, n93, e93, en, hc]
 | true =>
  cases h : zb9 (fun i => !zxl l i) 0 l.length with
  | true =>
   rw [h] at L
   simp (maxSteps := 1000000) -implicitDefEqProofs only [↓reduceIte, ↓cond_true, ↓cond_false, sr1, sr2, kA, seval, d93, ztw, n93, e93, en, hc, L]
  | false =>
   rw [h] at L
   simp (maxSteps := 1000000) -implicitDefEqProofs only [↓reduceIte, ↓cond_true, ↓cond_false, sr1, sr2, kA, seval, d93, ztw, n93, e93, en, hc, L]
theorem yakg (v : Sv) (l : List MCell) (hv : SvOk v 2 l.length) (hl : l.length < 2 ^ 62) : ∀ i, i ≤ l.length → lim (some []) 0 (blk 0 (om Tryz.prog ⟨94, none⟩ 0 (.loop (lpb Tryz.f94 0)) ⟨⟨37, [(0, .rsl v.a v.c v.z (l.map za0)), (3, .int .i64 i)]⟩, [], ⟨0, []⟩⟩)) =
  bif zb9 (fun i => !zxl l i) i l.length then some (.normal, ⟨⟨37, []⟩, [], ⟨0, []⟩⟩) else some (.ret, ⟨⟨37, [(2, .int .i64 8)]⟩, [], ⟨0, []⟩⟩) := by
 refine zb8 ?_ (fun i h ih => ?_) <;> rw [zae]
 ·simp (maxSteps := 1000000) -implicitDefEqProofs only [↓reduceIte, ↓cond_true, ↓cond_false, sr1, sr2, kA, seval, d94, ztx, n94, e94, zba]
 ·rw [zc5 h]
  cases i with
  | zero =>
   have e : zxl l 0 = decide (l[0].byte = 0) := by simp only [zxl, List.getElem?_eq_getElem h]
   have hx := zl7 (f := za0) (k := .i64) hv h
   have hd : decide ((0 : Int) < (l.length : Int)) = true := decide_eq_true (by omega)
   simp only [Int.natCast_zero, Nat.zero_add, Int.natCast_one] at hx ih ⊢
   rw [e]
   cases hb : decide (l[0].byte = 0) with
   | true => simp (maxSteps := 1000000) -implicitDefEqProofs only [↓reduceIte, ↓cond_true, ↓cond_false, sr1, sr2, kA, seval, d94, ztx, n94, e94, hd, hx, za0, hb]
   | false => simp (maxSteps := 1000000) -implicitDefEqProofs only [↓reduceIte, ↓cond_true, ↓cond_false, sr1, sr2, kA, seval, d94, ztx, n94, e94, hd, hx, za0, hb, ih]
  | succ j =>
   have e : zxl l (j + 1) = (decide (l[j + 1].byte = 0) || decide (l[j + 1].at_ ≤ l[j].at_)) := by simp only [zxl, List.getElem?_eq_getElem h, List.getElem?_eq_getElem (show j < l.length by omega)]
   have hx := zl7 (f := za0) (k := .i64) hv h
   have hy := zl7 (f := za0) (k := .i64) hv (show j < l.length by omega)
   have h0 : decide ((0 : Int) < ((j + 1 : Nat) : Int)) = true := decide_eq_true (by omega)
   rw [e]
   cases hb : decide (l[j + 1].byte = 0) with
   | true => simp (maxSteps := 1000000) -implicitDefEqProofs only [↓reduceIte, ↓cond_true, ↓cond_false, sr1, sr2, kA, seval, d94, ztx, n94, e94, dlt_t h, hx, za0, hb]
   | false =>
    cases ha : decide (l[j + 1].at_ ≤ l[j].at_) with
    | true => simp (maxSteps := 1000000) -implicitDefEqProofs only [↓reduceIte, ↓cond_true, ↓cond_false, sr1, sr2, kA, seval, d94, ztx, n94, e94, dlt_t h, hx, hy, h0, zrd (show j < 2 ^ 62 by omega), za0, hb, ha]
    | false => simp (maxSteps := 1000000) -implicitDefEqProofs only [↓reduceIte, ↓cond_true, ↓cond_false, sr1, sr2, kA, seval, d94, ztx, n94, e94, dlt_t h, wi_nat (show j + 1 < 2 ^ 62 by omega), hx, hy, h0, zrd (show j < 2 ^ 62 by omega), za0, hb, ha, ih]
theorem yach (v : Sv) (l : List MCell) (hv : SvOk v 2 l.length) (hl : l.length < 2 ^ 62) : zaq Tryz.prog (om Tryz.prog) 94 [.rsl v.a v.c v.z (l.map za0)] ⟨0, []⟩ = some (.int .i64 (bif zh8 l then 0 else 8), ⟨0, []⟩) := by
 have L := yakg v l hv hl 0 (Nat.zero_le _)
 simp only [Int.natCast_zero] at L
 have en : decide ((4096 : Int) < (l.length : Int)) = !decide ((l.length : Int) ≤ 4096) := by rw [zbg, Bool.not_not]
 unfold zh8
 rw [yax7 _ _ (by simp)]
 cases hc : decide ((l.length : Int) ≤ 4096) with
 | false => simp (maxSteps := 1000000) -implicitDefEqProofs only [↓reduceIte, ↓cond_true, ↓cond_false, sr1, sr2, kA, seval, d94, ztx, n94, e94, en, hc]
 | true =>
  cases h : zb9 (fun i => !zxl l i) 0 l.length with
  | true =>
   rw [h] at L
   simp (maxSteps := 1000000) -implicitDefEqProofs only [↓reduceIte, ↓cond_true, ↓cond_false, sr1, sr2, kA, seval, d94, ztx, n94, e94, en, hc, L]
  | false =>
   rw [h] at L
   simp (maxSteps := 1000000) -implicitDefEqProofs only [↓reduceIte, ↓cond_true, ↓cond_false, sr1, sr2, kA, seval, d94, ztx, n94, e94, en, hc, L]
def zcs : Nat → List MReg → List Int
 | _, [] => []
 | i, r :: l => bif decide (r.of_ = -1) then (i : Int) :: zcs (i + 1) l else zcs (i + 1) l
def za1 (m : MMach) : List Int := zcs 0 m.regs
theorem zhy {l : List MReg} {i : Nat} (h : i < l.length) : zcs i (l.drop i) = bif decide (l[i].of_ = -1) then (i : Int) :: zcs (i + 1) (l.drop (i + 1)) else zcs (i + 1) (l.drop (i + 1)) := by
 rw [List.drop_eq_getElem_cons h]; rfl
theorem zj7 {l : List MReg} : zcs l.length (l.drop l.length) = [] := by rw [List.drop_length]; rfl
theorem zai {l : List Int} : AV.refsL (l.map zdt) = [] := refsL_map fun _ => rfl
theorem zak {l : List Int} {ρ : Nat → Nat} : AV.renL ρ (l.map zdt) = l.map zdt := renL_map fun _ => rfl
theorem zg3 {l : List Int} : zby (l.map zdt) = true := leafs_map fun _ => rfl
def valI (l : List Int) : Rv := if l = [] then some (zbs, ⟨0, []⟩) else some (.sl 0 0 l.length 1, ⟨1, [some (.cells 3 (l.map zdt))]⟩)
theorem zpa : valI [] = some (zbs, ⟨0, []⟩) := rfl
theorem zf0 {x : Int} {l : List Int} : valI (x :: l) = some (.sl 0 0 (l.length + 1) 1, ⟨1, [some (.cells 3 (.int .i64 x :: l.map zdt))]⟩) := rfl
theorem yavs {x : Int} {l : List Int} : AV.refsL (.int .i64 x :: l.map zdt) = [] := zai (l := x :: l)
theorem yayi {x : Int} {l : List Int} {ρ : Nat → Nat} : AV.renL ρ (.int .i64 x :: l.map zdt) = .int .i64 x :: l.map zdt := zak (l := x :: l)
def resT (n : Nat) (l : List Int) : Rx := if l = [] then some (.normal, ⟨⟨n, [(3, zbs)]⟩, [], ⟨0, []⟩⟩) else some (.normal, ⟨⟨n, [(3, .sl 0 0 l.length 1)]⟩, [], ⟨1, [some (.cells 3 (l.map zdt))]⟩⟩)
theorem zo5 {n : Nat} : resT n [] = some (.normal, ⟨⟨n, [(3, zbs)]⟩, [], ⟨0, []⟩⟩) := rfl
theorem zmt {n : Nat} {x : Int} {l : List Int} : resT n (x :: l) = some (.normal, ⟨⟨n, [(3, .sl 0 0 (l.length + 1) 1)]⟩, [], ⟨1, [some (.cells 3 (.int .i64 x :: l.map zdt))]⟩⟩) := rfl
theorem yau9 (m : MMach) (hB : Bd m) : ∀ i, i ≤ m.regs.length → ∀ y l, l.length + 1 + (m.regs.length - i) ≤ 2000000 → lim (some [3]) 0 (blk 0 (om Tryz.prog ⟨75, none⟩ 0 (.loop (lpb Tryz.f75 0)) ⟨⟨23, [(3, .sl 0 0 (l.length + 1) 1), (7, .rsl (slA m.pr m.regs) m.pr.cap 4 (m.regs.map zei)), (8, .int .i64 m.regs.length), (9, .int .i64 i)]⟩, [], ⟨1, [some (.cells 3 (.int .i64 y :: l.map zdt))]⟩⟩)) = resT 23 (y :: (l ++ zcs i (m.regs.drop i))) := by
 have hu := hB.r
 refine zb8 (fun y l hl => ?_) (fun i h ih y l hl => ?_) <;> rw [zae]
 ·simp (maxSteps := 1000000) -implicitDefEqProofs only [↓reduceIte, ↓cond_true, ↓cond_false, sr1, sr2, kA, seval, d75, n75, e75, zj7, zmt, zai, zak, zg3]
 ·rw [zhy h]
  cases hd : decide (m.regs[i].of_ = -1) with
  | false => simp (maxSteps := 1000000) -implicitDefEqProofs only [↓reduceIte, ↓cond_true, ↓cond_false, sr1, sr2, kA, seval, d75, n75, e75, dlt_t h, wi_nat (show i < 2 ^ 62 by omega), ix_sl zab h, zei, hd, ih y l (by omega), zai, zak, zg3]
  | true =>
   have L := ih y (l ++ [(i : Int)]) (by simp; omega)
   have f1 : zsd 8 (l.length + 1) 1 = true := zdf (by omega) (by decide)
   rw [List.append_assoc] at L
   simp only [List.length_append, List.length_cons, List.length_nil, List.map_append, List.map_cons, List.map_nil, Nat.zero_add, zdt, List.cons_append, List.nil_append] at L
   simp (maxSteps := 1000000) -implicitDefEqProofs only [↓reduceIte, ↓cond_true, ↓cond_false, sr1, sr2, kA, seval, d75, n75, e75, dlt_t h, wi_nat (show i < 2 ^ 62 by omega), ix_sl zab h, zei, hd, f1, L, zai, zak, zg3]
theorem yau8 (m : MMach) (hB : Bd m) : ∀ i, i ≤ m.regs.length → lim (some [3]) 0 (blk 0 (om Tryz.prog ⟨75, none⟩ 0 (.loop (lpb Tryz.f75 0)) ⟨⟨23, [(3, zbs), (7, .rsl (slA m.pr m.regs) m.pr.cap 4 (m.regs.map zei)), (8, .int .i64 m.regs.length), (9, .int .i64 i)]⟩, [], ⟨0, []⟩⟩)) = resT 23 (zcs i (m.regs.drop i)) := by
 have hu := hB.r
 refine zb8 ?_ (fun i h ih => ?_) <;> rw [zae]
 ·simp (maxSteps := 1000000) -implicitDefEqProofs only [↓reduceIte, ↓cond_true, ↓cond_false, sr1, sr2, kA, seval, d75, n75, e75, zj7, zo5, zbs]
 ·rw [zhy h]
  cases hd : decide (m.regs[i].of_ = -1) with
  | false =>
   simp only [zbs] at ih
   simp (maxSteps := 1000000) -implicitDefEqProofs only [↓reduceIte, ↓cond_true, ↓cond_false, sr1, sr2, kA, seval, d75, n75, e75, dlt_t h, wi_nat (show i < 2 ^ 62 by omega), ix_sl zab h, zei, hd, ih, zbs]
  | true =>
   have L := yau9 m hB (i + 1) h (i : Int) [] (by simp; omega)
   simp only [List.length_nil, Nat.zero_add, List.map_nil, List.nil_append] at L
   simp (maxSteps := 1000000) -implicitDefEqProofs only [↓reduceIte, ↓cond_true, ↓cond_false, sr1, sr2, kA, seval, d75, n75, e75, dlt_t h, wi_nat (show i < 2 ^ 62 by omega), ix_sl zab h, zei, hd, zdf, L, zbs]
theorem yab5 (m : MMach) (hB : Bd m) : zaq Tryz.prog (om Tryz.prog) 75 [zac m] ⟨0, []⟩ = valI (za1 m) := by
 have L := yau8 m hB 0 (Nat.zero_le _)
 simp only [Int.natCast_zero, List.drop_zero, zbs] at L
 have e : zcs 0 m.regs = za1 m := rfl
 rw [e] at L
 rw [yaxq _ _ (by simp)]
 cases hv : za1 m with
 | nil =>
  rw [hv, zo5] at L
  simp only [zbs] at L
  simp (maxSteps := 1000000) -implicitDefEqProofs only [↓reduceIte, ↓cond_true, ↓cond_false, sr1, sr2, kA, seval, d75, n75, e75, zac, zad, L, zpa, zbs]
 | cons x l =>
  rw [hv, zmt] at L
  simp (maxSteps := 1000000) -implicitDefEqProofs only [↓reduceIte, ↓cond_true, ↓cond_false, sr1, sr2, kA, seval, d75, n75, e75, zac, zad, L, zf0, zai, zak]
abbrev mtH (m : MMach) (y : Int) (l : List Int) : Heap := ⟨2, [some (.cells 27 (zad m)), some (.cells 3 (.int .i64 y :: l.map zdt))]⟩
theorem yanj (m : MMach) (hB : Bd m) : ∀ i, i ≤ m.regs.length → ∀ y l, l.length + 1 + (m.regs.length - i) ≤ 2000000 → lim (some [3]) 0 (blk 0 (om Tryz.prog ⟨83, none⟩ 0 (.loop (lpb Tryz.f83 0)) ⟨⟨24, [(1, .ptr 0 0), (3, .sl 1 0 (l.length + 1) 1), (4, .int .i64 i)]⟩, [], mtH m y l⟩)) = resT 24 (y :: (l ++ zcs i (m.regs.drop i))) := by
 have hu := hB.r
 refine zb8 (fun y l hl => ?_) (fun i h ih y l hl => ?_) <;> rw [zae]
 ·simp (maxSteps := 1000000) -implicitDefEqProofs only [↓reduceIte, ↓cond_true, ↓cond_false, sr1, sr2, kA, seval, d83, n83, e83, zj7, zmt, zai, zak, zg3]
 ·rw [zhy h]
  cases hd : decide (m.regs[i].of_ = -1) with
  | false => simp (maxSteps := 1000000) -implicitDefEqProofs only [↓reduceIte, ↓cond_true, ↓cond_false, sr1, sr2, kA, seval, d83, n83, e83, dlt_t h, wi_nat (show i < 2 ^ 62 by omega), ix_sl zab h, zei, hd, ih y l (by omega), zai, zak, zg3]
  | true =>
   have L := ih y (l ++ [(i : Int)]) (by simp; omega)
   have f1 : zsd 8 (l.length + 1) 1 = true := zdf (by omega) (by decide)
   rw [List.append_assoc] at L
   simp only [mtH, List.length_append, List.length_cons, List.length_nil, List.map_append, List.map_cons, List.map_nil, Nat.zero_add, zdt, List.cons_append, List.nil_append] at L
   simp (maxSteps := 1000000) -implicitDefEqProofs only [↓reduceIte, ↓cond_true, ↓cond_false, sr1, sr2, kA, seval, d83, n83, e83, dlt_t h, wi_nat (show i < 2 ^ 62 by omega), ix_sl zab h, zei, hd, f1, L, zai, zak, zg3]
theorem yani (m : MMach) (hB : Bd m) : ∀ i, i ≤ m.regs.length → lim (some [3]) 0 (blk 0 (om Tryz.prog ⟨83, none⟩ 0 (.loop (lpb Tryz.f83 0)) ⟨⟨24, [(1, .ptr 0 0), (3, zbs), (4, .int .i64 i)]⟩, [], zeh m⟩)) = resT 24 (zcs i (m.regs.drop i)) := by
 have hu := hB.r
 refine zb8 ?_ (fun i h ih => ?_) <;> rw [zae]
 ·simp (maxSteps := 1000000) -implicitDefEqProofs only [↓reduceIte, ↓cond_true, ↓cond_false, sr1, sr2, kA, seval, d83, n83, e83, zj7, zo5, zbs]
 ·rw [zhy h]
  cases hd : decide (m.regs[i].of_ = -1) with
  | false =>
   simp only [zbs] at ih
   simp (maxSteps := 1000000) -implicitDefEqProofs only [↓reduceIte, ↓cond_true, ↓cond_false, sr1, sr2, kA, seval, d83, n83, e83, dlt_t h, wi_nat (show i < 2 ^ 62 by omega), ix_sl zab h, zei, hd, ih, zbs]
  | true =>
   have L := yanj m hB (i + 1) h (i : Int) [] (by simp; omega)
   simp only [mtH, List.length_nil, Nat.zero_add, List.map_nil, List.nil_append] at L
   simp (maxSteps := 1000000) -implicitDefEqProofs only [↓reduceIte, ↓cond_true, ↓cond_false, sr1, sr2, kA, seval, d83, n83, e83, dlt_t h, wi_nat (show i < 2 ^ 62 by omega), ix_sl zab h, zei, hd, zdf, L, zbs]
theorem zq9 (m : MMach) (hB : Bd m) : zaq Tryz.prog (om Tryz.prog) 83 [zac m] ⟨0, []⟩ = valI (za1 m) := by
 have L := yani m hB 0 (Nat.zero_le _)
 simp only [Int.natCast_zero, List.drop_zero, zbs] at L
 have e : zcs 0 m.regs = za1 m := rfl
 rw [e] at L
 rw [yaxy _ _ (by simp)]
 cases hv : za1 m with
 | nil =>
  rw [hv, zo5] at L
  simp only [zbs] at L
  simp (maxSteps := 1000000) -implicitDefEqProofs only [↓reduceIte, ↓cond_true, ↓cond_false, sr1, sr2, kA, seval, d83, n83, e83, zac, zad, L, zpa, zbs]
 | cons x l =>
  rw [hv, zmt] at L
  simp (maxSteps := 1000000) -implicitDefEqProofs only [↓reduceIte, ↓cond_true, ↓cond_false, sr1, sr2, kA, seval, d83, n83, e83, zac, zad, L, zf0, zai, zak]
theorem znm : ∀ {l : List MReg} {i : Nat} {r : MReg}, r ∈ l → r.of_ = -1 → zcs i l ≠ []
 | x :: l, i, r, hr, h => by
  simp only [zcs]
  cases hd : decide (x.of_ = -1) with
  | true => simp
  | false =>
   rcases List.mem_cons.1 hr with rfl | hr
   ·rw [decide_eq_true h] at hd; cases hd
   ·exact znm hr h
theorem zra {m : MMach} (h : zhx m = true) : za1 m ≠ [] := by
 have hp := h
 unfold zhx at hp
 rw [Bool.and_eq_true, decide_eq_true_iff] at hp
 have h0 : 0 < m.regs.length := by omega
 obtain ⟨_, hq⟩ := zg7 hp.2 (List.getElem_mem h0)
 unfold zrh at hq
 rw [Bool.and_eq_true] at hq
 cases ha : decide (m.regs[0].of_ = -1) with
 | true => exact znm (List.getElem_mem h0) (of_decide_eq_true ha)
 | false =>
  rw [ha] at hq
  simp only [cond_false] at hq
  cases hI : inR m.regs[0].of_ 0 ((m.regs.length : Int) - 1) with
  | false => rw [hI] at hq; simp at hq
  | true =>
   obtain ⟨z0, z1⟩ := zd7 hI
   rw [hI, List.getElem?_eq_getElem z1] at hq
   simp only [cond_true, zuj, Bool.and_eq_true, decide_eq_true_eq] at hq
   exact znm (List.getElem_mem z1) hq.2.1
theorem zg5 {m : MMach} (h : zb1 m = 0) : zhx m = true := by
 unfold zb1 at h
 cases hs : zk2 m with
 | false => rw [hs] at h; simp at h
 | true =>
  rw [hs] at h
  cases hg : goodB m with
  | false => rw [hg] at h; simp at h
  | true =>
   rw [zi1, Bool.and_eq_true] at hg
   have := hg.1
   unfold preB at this
   simp only [Bool.and_eq_true] at this
   exact this.2.1
end Go.Proofs.YtcfcphhamfhfcaaGreatDoor.v
