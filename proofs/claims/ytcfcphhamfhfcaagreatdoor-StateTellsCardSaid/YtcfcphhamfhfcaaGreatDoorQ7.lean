/- What the law's proof leans on, part 26. Conditions: in each statement. -/
import Derived.Test.YtcfcphhamfhfcaaGreatDoorQ3
import Derived.Test.YtcfcphhamfhfcaaGreatDoorQ4
import Derived.Test.YtcfcphhamfhfcaaGreatDoorQ6
set_option linter.all false
namespace Go.Proofs.YtcfcphhamfhfcaaGreatDoor.v
open Go Go.Ab
set_option maxRecDepth 100000
set_option maxHeartbeats 4000000
set_option linter.unusedSimpArgs false
set_option linter.unusedVariables false
def zvr (f : MTerm → Int → Int × Bool) (lim : Int) : List MTerm → Int → Int × Bool
 | [], n => (n, true)
 | x :: l, n => bif decide (n ≤ lim) then (bif (f x (lim - n)).2 then zvr f lim l (n + (f x (lim - n)).1) else (n, false)) else (n, true)
def zri : Nat → MTerm → Int → Int × Bool
 | 0, _, _ => (1, false)
 | d + 1, t, lim => zvr (zri d) lim t.sub 1
theorem zx3 {f : MTerm → Int → Int × Bool} {lim : Int} (hf : ∀ x k, 0 ≤ k → 1 ≤ (f x k).1 ∧ (f x k).1 ≤ k + 1) : ∀ {l : List MTerm} {n : Int}, 1 ≤ n → n ≤ lim + 1 → n ≤ (zvr f lim l n).1 ∧ (zvr f lim l n).1 ≤ lim + 1
 | [], n, h0, h1 => ⟨Int.le_refl _, h1⟩
 | x :: l, n, h0, h1 => by
  simp only [zvr]
  cases h : decide (n ≤ lim) with
  | false => exact ⟨Int.le_refl _, h1⟩
  | true =>
   have h' := of_decide_eq_true h
   have hx := hf x (lim - n) (by omega)
   simp only [cond_true]
   cases (f x (lim - n)).2 with
   | false => exact ⟨Int.le_refl _, h1⟩
   | true =>
    have := zx3 (lim := lim) hf (l := l) (n := n + (f x (lim - n)).1) (by omega) (by omega)
    simp only [cond_true]
    omega
theorem zx2 : ∀ (d : Nat) (x : MTerm) (k : Int), 0 ≤ k → 1 ≤ (zri d x k).1 ∧ (zri d x k).1 ≤ k + 1
 | 0, x, k, h => by simp [zri]; omega
 | d + 1, x, k, h => by
  have := zx3 (lim := k) (zx2 d) (l := x.sub) (n := 1) (by omega) (by omega)
  rw [zri]; exact this
theorem yafd {f : MTerm → Int → Int × Bool} {lim : Int} (hf : ∀ x k, (f x k).2 = true → (f x k).1 ≤ k → (x.sz : Int) = (f x k).1) (hg : ∀ x k, 0 ≤ k → 1 ≤ (f x k).1 ∧ (f x k).1 ≤ k + 1) : ∀ {l : List MTerm} {n : Int}, 1 ≤ n → n ≤ lim + 1 → (zvr f lim l n).2 = true → (zvr f lim l n).1 ≤ lim → n + (szL l : Int) = (zvr f lim l n).1
 | [], n, _, _, _, _ => by simp [zvr, szL]
 | x :: l, n, h0, h1, h2, h3 => by
  simp only [zvr] at h2 h3 ⊢
  cases h : decide (n ≤ lim) with
  | false =>
   rw [h] at h3
   have := of_decide_eq_false h
   simp only [cond_false] at h3
   omega
  | true =>
   have h' := of_decide_eq_true h
   have hx := hg x (lim - n) (by omega)
   rw [h] at h2 h3
   simp only [cond_true] at h2 h3 ⊢
   cases hb : (f x (lim - n)).2 with
   | false => rw [hb] at h2; cases h2
   | true =>
    rw [hb] at h2 h3
    simp only [cond_true] at h2 h3 ⊢
    have hle := zx3 (lim := lim) hg (l := l) (n := n + (f x (lim - n)).1) (by omega) (by omega)
    have := yafd (lim := lim) hf hg (l := l) (n := n + (f x (lim - n)).1) (by omega) (by omega) h2 h3
    have hs := hf x (lim - n) hb (by omega)
    rw [zfc]
    omega
theorem yafc : ∀ (d : Nat) (x : MTerm) (k : Int), (zri d x k).2 = true → (zri d x k).1 ≤ k → (x.sz : Int) = (zri d x k).1
 | 0, x, k, h, _ => by cases h
 | d + 1, x, k, h2, h3 => by
  rw [zri] at h2 h3 ⊢
  have hg := zx2 d
  by_cases hk : 0 ≤ k
  ·have := yafd (lim := k) (yafc d) hg (l := x.sub) (n := 1) (by omega) (by omega) h2 h3
   rw [zus]; omega
  ·exfalso
   cases hs : x.sub with
   | nil => rw [hs] at h3; simp [zvr] at h3; omega
   | cons y l =>
    rw [hs] at h3
    simp only [zvr, decide_eq_false (show ¬ (1 : Int) ≤ k by omega), cond_false] at h3
    omega
structure RawT (t : MTerm) : Prop where
 l : ∀ x ∈ t.nodes, x.sub.length < 2 ^ 62
 n : ∀ x ∈ t.nodes, x.nm.size < 2 ^ 62
theorem RawT.sub {t x : MTerm} (h : RawT t) (hx : x ∈ t.sub) : RawT x := ⟨fun y hy => h.l y (zg8 hx hy), fun y hy => h.n y (zg8 hx hy)⟩
def resC (r : Int × Bool) : Rx := bif r.2 then some (.normal, ⟨⟨47, [(8, .int .i64 r.1)]⟩, [], ⟨0, []⟩⟩) else some (.ret, ⟨⟨47, [(6, .int .i64 r.1), (7, .bool false)]⟩, [], ⟨0, []⟩⟩)
theorem yas0 (d : Nat) (hd : d + 1 ≤ 80) (t : MTerm) (ht : RawT t) (lm : Int) (h0 : 0 ≤ lm) (h1 : lm ≤ 500) (hS : ∀ x ∈ t.sub, ∀ k : Int, 0 ≤ k → k ≤ 500 → zaq Tryz.prog (om Tryz.prog) 128 [zag x, .int .i64 k, .int .i64 (d : Int)] ⟨0, []⟩ = some (.tup [.int .i64 (zri d x k).1, .bool (zri d x k).2], ⟨0, []⟩)) :
  ∀ i, i ≤ t.sub.length → ∀ n : Int, 1 ≤ n → n ≤ lm + 1 → lim (some [8]) 0 (blk 0 (om Tryz.prog ⟨128, none⟩ 0 (.loop (lpb Tryz.f128 0)) ⟨⟨47, [(1, .int .i64 lm), (2, .int .i64 ((d + 1 : Nat) : Int)), (3, .ptr 0 0), (8, .int .i64 n), (9, .int .i64 i)]⟩, [], tH t⟩)) = resC (zvr (zri d) lm (t.sub.drop i) n) := by
 have hl := ht.l t (zfy t)
 have wd : IntKind.i64.wrap (((d + 1 : Nat) : Int) - 1) = (d : Int) := by rw [zjp (by omega) (by omega)]; omega
 refine zb8 (fun n h2 h3 => ?_) (fun i h ih n h2 h3 => ?_) <;> rw [zae]
 ·simp (maxSteps := 1000000) -implicitDefEqProofs only [↓reduceIte, ↓cond_true, ↓cond_false, sr1, sr2, kA, seval, d128, n128, e128, tH, zah, List.drop_length, zvr, resC]
 ·rw [List.drop_eq_getElem_cons h]
  simp only [zvr]
  cases hn : decide (n ≤ lm) with
  | false => simp (maxSteps := 1000000) -implicitDefEqProofs only [↓reduceIte, ↓cond_true, ↓cond_false, sr1, sr2, kA, seval, d128, n128, e128, tH, zah, dlt_t h, hn, resC]
  | true =>
   have hn' := of_decide_eq_true hn
   have hx := hS t.sub[i] (List.getElem_mem h) (lm - n) (by omega) (by omega)
   have hb := zx2 d t.sub[i] (lm - n) (by omega)
   have wl : IntKind.i64.wrap (lm - n) = lm - n := zjp (by omega) (by omega)
   generalize zri d t.sub[i] (lm - n) = r at hx hb ⊢
   simp only [zag, zah] at hx
   cases h2' : r.2 with
   | false =>
    rw [h2'] at hx
    simp (maxSteps := 1000000) -implicitDefEqProofs only [↓reduceIte, ↓cond_true, ↓cond_false, sr1, sr2, kA, seval, d128, n128, e128, tH, zah, zag, dlt_t h, hn, zdq h, wd, wl, hx, resC]
   | true =>
    rw [h2'] at hx
    have wa : IntKind.i64.wrap (n + r.1) = n + r.1 := zjp (by omega) (by omega)
    have L := ih (n + r.1) (by omega) (by omega)
    simp only [tH, zah] at L
    simp (maxSteps := 1000000) -implicitDefEqProofs only [↓reduceIte, ↓cond_true, ↓cond_false, sr1, sr2, kA, seval, d128, n128, e128, tH, zah, zag, dlt_t h, wi_nat (show i < 2 ^ 62 by omega), hn, zdq h, wd, wl, wa, hx, L]
theorem zvu : ∀ (d : Nat), d ≤ 80 → ∀ (t : MTerm), RawT t → ∀ lm : Int, 0 ≤ lm → lm ≤ 500 → zaq Tryz.prog (om Tryz.prog) 128 [zag t, .int .i64 lm, .int .i64 (d : Int)] ⟨0, []⟩ = some (.tup [.int .i64 (zri d t lm).1, .bool (zri d t lm).2], ⟨0, []⟩)
 | 0, _, t, ht, lm, h0, h1 => by
  rw [yae2 _ _ (by simp)]
  simp (maxSteps := 1000000) -implicitDefEqProofs only [↓reduceIte, ↓cond_true, ↓cond_false, sr1, sr2, kA, seval, d128, n128, e128, zag, zah, zri]
 | d + 1, hd, t, ht, lm, h0, h1 => by
  have L := yas0 d hd t ht lm h0 h1 (fun x hx k k0 k1 => zvu d (by omega) x (ht.sub hx) k k0 k1) 0 (Nat.zero_le _) 1 (by omega) (by omega)
  have hz : decide (((d + 1 : Nat) : Int) = 0) = false := decide_eq_false (by omega)
  rw [List.drop_zero] at L
  simp only [tH, zah, Int.natCast_zero] at L
  have e : zri (d + 1) t lm = zvr (zri d) lm t.sub 1 := rfl
  rw [e]
  generalize zvr (zri d) lm t.sub 1 = r at L ⊢
  rw [yae2 _ _ (by simp)]
  cases h2 : r.2 with
  | true =>
   unfold resC at L
   rw [h2] at L
   simp (maxSteps := 1000000) -implicitDefEqProofs only [↓reduceIte, ↓cond_true, ↓cond_false, sr1, sr2, kA, seval, d128, n128, e128, zag, zah, hz, L]
  | false =>
   unfold resC at L
   rw [h2] at L
   simp (maxSteps := 1000000) -implicitDefEqProofs only [↓reduceIte, ↓cond_true, ↓cond_false, sr1, sr2, kA, seval, d128, n128, e128, zag, zah, hz, L]
def zme (t : MTerm) : Bool := !t.nodes.all fun x => decide ((x.nm.size : Int) ≤ 200)
theorem yaz1 (t : MTerm) (ht : RawT t) (hS : ∀ x ∈ t.sub, zaq Tryz.prog (om Tryz.prog) 129 [zag x] ⟨0, []⟩ = some (.bool (zme x), ⟨0, []⟩)) : ∀ i, i ≤ t.sub.length → lim (some [1]) 0 (blk 0 (om Tryz.prog ⟨129, none⟩ 0 (.loop (lpb Tryz.f129 0)) ⟨⟨21, [(1, .ptr 0 0), (3, .int .i64 i)]⟩, [], tH t⟩)) = bif (t.sub.drop i).all (fun x => !zme x) then some (.normal, ⟨⟨21, [(1, .ptr 0 0)]⟩, [], tH t⟩) else some (.ret, ⟨⟨21, [(2, .bool true)]⟩, [], ⟨0, []⟩⟩) := by
 have hl := ht.l t (zfy t)
 refine zb8 ?_ (fun i h ih => ?_) <;> rw [zae]
 ·simp (maxSteps := 1000000) -implicitDefEqProofs only [↓reduceIte, ↓cond_true, ↓cond_false, sr1, sr2, kA, seval, d129, n129, e129, tH, zah, List.drop_length]
 ·have hx := hS t.sub[i] (List.getElem_mem h)
  rw [ze7 h]
  simp only [tH, zag, zah] at hx ih
  cases hr : zme t.sub[i] with
  | true =>
   rw [hr] at hx
   simp (maxSteps := 1000000) -implicitDefEqProofs only [↓reduceIte, ↓cond_true, ↓cond_false, sr1, sr2, kA, seval, d129, n129, e129, tH, dlt_t h, zdq h, zag, zah, hx]
  | false =>
   rw [hr] at hx
   simp (maxSteps := 1000000) -implicitDefEqProofs only [↓reduceIte, ↓cond_true, ↓cond_false, sr1, sr2, kA, seval, d129, n129, e129, tH, dlt_t h, wi_nat (show i < 2 ^ 62 by omega), zdq h, zag, zah, hx, ih]
theorem yalt (t : MTerm) (ht : RawT t) : zaq Tryz.prog (om Tryz.prog) 129 [zag t] ⟨0, []⟩ = some (.bool (zme t), ⟨0, []⟩) := by
 refine zda (Q := fun t => RawT t → zaq Tryz.prog (om Tryz.prog) 129 [zag t] ⟨0, []⟩ = some (.bool (zme t), ⟨0, []⟩)) (fun t ih ht => ?_) t ht
 have L := yaz1 t ht (fun x hx => ih x hx (ht.sub hx)) 0 (Nat.zero_le _)
 have e : zme t = (!t.sub.all (fun x => !zme x) || decide (200 < (t.nm.size : Int))) := by
  have e1 : zme t = !(decide ((t.nm.size : Int) ≤ 200) && t.sub.all fun x => x.nodes.all fun x => decide ((x.nm.size : Int) ≤ 200)) := by unfold zme; rw [zdv]
  have e2 : (t.sub.all fun x => !zme x) = t.sub.all fun x => x.nodes.all fun x => decide ((x.nm.size : Int) ≤ 200) := by
   congr 1; funext x; unfold zme; rw [Bool.not_not]
  have e3 : decide ((t.nm.size : Int) ≤ 200) = !decide (200 < (t.nm.size : Int)) := by
   by_cases q : (t.nm.size : Int) ≤ 200
   ·rw [decide_eq_true q, decide_eq_false (by omega)]; rfl
   ·rw [decide_eq_false q, decide_eq_true (by omega)]; rfl
  rw [e1, e2, e3, Bool.not_and, Bool.not_not, Bool.or_comm]
 rw [List.drop_zero] at L
 rw [e]
 simp only [tH, zah, Int.natCast_zero] at L
 rw [yari _ _ (by simp)]
 cases hb : t.sub.all (fun x => !zme x) with
 | true =>
  rw [hb] at L
  simp (maxSteps := 1000000) -implicitDefEqProofs only [↓reduceIte, ↓cond_true, ↓cond_false, sr1, sr2, kA, seval, d129, n129, e129, zag, zah, L]
 | false =>
  rw [hb] at L
  simp (maxSteps := 1000000) -implicitDefEqProofs only [↓reduceIte, ↓cond_true, ↓cond_false, sr1, sr2, kA, seval, d129, n129, e129, zag, zah, L]
def zgb (t : MTerm) : Bool := !(zri 80 t 500).2 || (decide (500 < (zri 80 t 500).1) || zme t)
theorem zne (t : MTerm) (ht : RawT t) : zaq Tryz.prog (om Tryz.prog) 73 [zag t] ⟨0, []⟩ = some (.bool (zgb t), ⟨0, []⟩) := by
 have hC := zvu 80 (Nat.le_refl _) t ht 500 (by decide) (by decide)
 have hL := yalt t ht
 simp only [zag, zah, Int.cast_ofNat_Int] at hC hL
 rw [yaxo _ _ (by simp)]
 simp (maxSteps := 1000000) -implicitDefEqProofs only [↓reduceIte, ↓cond_true, ↓cond_false, sr1, sr2, kA, seval, d73, n73, zag, zah, hC, hL, zgb, Bool.or_assoc]
theorem zl5 {t : MTerm} (h : zgb t = false) : t.sz ≤ 500 ∧ ∀ x ∈ t.nodes, x.nm.size ≤ 200 := by
 unfold zgb at h
 simp only [Bool.or_eq_false_iff, Bool.not_eq_false', decide_eq_false_iff_not] at h
 have hs := yafc 80 t 500 h.1 (by omega)
 refine ⟨by omega, fun x hx => ?_⟩
 have := h.2.2
 unfold zme at this
 rw [Bool.not_eq_false', List.all_eq_true] at this
 have := of_decide_eq_true (this x hx)
 omega
structure RawM (m : MMach) : Prop where
 r : m.regs.length < 2 ^ 62
 b : m.banks.length < 2 ^ 62
 u : m.units.length < 2 ^ 62
 i : m.instrs.length < 2 ^ 62
 n : m.name.size < 2 ^ 62
 o : ∀ s ∈ m.instrs, s.operands.length < 2 ^ 62
 e : ∀ s ∈ m.instrs, s.effects.length < 2 ^ 62
 t : ∀ s ∈ m.instrs, ∀ x ∈ s.effects, RawT x.addr ∧ RawT x.value ∧ RawT x.cond
def szE (x : MEff) : Nat := x.addr.sz + x.value.sz + x.cond.sz
def efF (n : Nat) (l : List MEff) : Nat := l.foldl (fun n x => n + szE x) n
def inF (n : Nat) (l : List MInstr) : Nat := l.foldl (fun n s => efF n s.effects) n
def SmE (x : MEff) : Prop := x.addr.sz ≤ 500 ∧ x.value.sz ≤ 500 ∧ x.cond.sz ≤ 500
theorem yaok : ∀ {l : List MEff} {n : Nat}, (∀ x ∈ l, SmE x) → n ≤ efF n l ∧ efF n l ≤ n + 1500 * l.length
 | [], n, _ => by simp [efF]
 | x :: l, n, h => by
  have hx := h x (by simp)
  have := yaok (l := l) (n := n + szE x) (fun y hy => h y (by simp [hy]))
  unfold efF at this ⊢
  rw [List.foldl_cons]
  have : szE x ≤ 1500 := by unfold szE; unfold SmE at hx; omega
  simp only [List.length_cons]
  omega
theorem yamc (m : MMach) (i : Nat) (hi : i < m.instrs.length) (hl : m.instrs[i].effects.length < 1000) (hS : ∀ x ∈ m.instrs[i].effects, SmE x) : ∀ k, k ≤ m.instrs[i].effects.length → ∀ n : Nat, n + 1500 * (m.instrs[i].effects.length - k) ≤ 1000000000 → lim (some [1, 3, 4]) 0 (blk 2 (om Tryz.prog ⟨74, none⟩ 0 (.loop (lpb Tryz.f74 1)) ⟨⟨48, [(1, .ptr 0 0), (3, .int .i64 n), (4, .int .i64 i), (5, .int .i64 k)]⟩, [], zeh m⟩)) =
  some (.normal, ⟨⟨48, [(1, .ptr 0 0), (3, .int .i64 ((efF n (m.instrs[i].effects.drop k) : Nat) : Int)), (4, .int .i64 i)]⟩, [], zeh m⟩) := by
 have ei := ix_sl (k := .i64) (f := zaf) (sz := 9) (c := m.pi.cap) (zab (p := m.pi) (f := zaf)) hi
 generalize m.instrs[i] = s at *
 refine zb8 (fun n hn => ?_) (fun k h ih n hn => ?_) <;> rw [zae]
 ·simp (maxSteps := 1000000) -implicitDefEqProofs only [↓reduceIte, ↓cond_true, ↓cond_false, sr1, sr2, kA, seval, d74, yafx, n74, e74, ei, zaf, List.drop_length, efF, List.foldl_nil]
 ·have hx := hS _ (List.getElem_mem h)
  have ha := zmw s.effects[k].addr (by have := hx.1; omega)
  have hv := zmw s.effects[k].value (by have := hx.2.1; omega)
  have hc := zmw s.effects[k].cond (by have := hx.2.2; omega)
  have hb : szE s.effects[k] ≤ 1500 := by unfold szE; unfold SmE at hx; omega
  have L := ih (n + szE s.effects[k]) (by omega)
  have e : efF n (s.effects.drop k) = efF (n + szE s.effects[k]) (s.effects.drop (k + 1)) := by rw [List.drop_eq_getElem_cons h]; rfl
  have w1 := zrc (a := s.effects[k].addr.sz) (b := s.effects[k].value.sz) (by unfold SmE at hx; omega)
  have w2 := zrc (a := s.effects[k].addr.sz + s.effects[k].value.sz) (b := s.effects[k].cond.sz) (by unfold SmE at hx; omega)
  have w3 := zrc (a := n) (b := szE s.effects[k]) (by omega)
  have es : s.effects[k].addr.sz + s.effects[k].value.sz + s.effects[k].cond.sz = szE s.effects[k] := rfl
  rw [es] at w2
  rw [e]
  simp only [zag, zah] at ha hv hc
  simp (maxSteps := 1000000) -implicitDefEqProofs only [↓reduceIte, ↓cond_true, ↓cond_false, sr1, sr2, kA, seval, d74, yafx, n74, e74, dlt_t h, wi_nat (show k < 2 ^ 62 by omega), ei, zaf, ix_sl zab h, zcp, ha, hv, hc, w1, w2, w3, L]
theorem yamb (m : MMach) (hl : m.instrs.length < 1000) (he : ∀ s ∈ m.instrs, s.effects.length < 100) (hS : ∀ s ∈ m.instrs, ∀ x ∈ s.effects, SmE x) : ∀ i, i ≤ m.instrs.length → ∀ n : Nat, n + 150000 * (m.instrs.length - i) ≤ 500000000 → lim (some [3]) 0 (blk 0 (om Tryz.prog ⟨74, none⟩ 0 (.loop (lpb Tryz.f74 0)) ⟨⟨48, [(1, .ptr 0 0), (3, .int .i64 n), (4, .int .i64 i)]⟩, [], zeh m⟩)) =
  some (.normal, ⟨⟨48, [(3, .int .i64 ((inF n (m.instrs.drop i) : Nat) : Int))]⟩, [], ⟨0, []⟩⟩) := by
 refine zb8 (fun n hn => ?_) (fun i h ih n hn => ?_) <;> rw [zae]
 ·simp (maxSteps := 1000000) -implicitDefEqProofs only [↓reduceIte, ↓cond_true, ↓cond_false, sr1, sr2, kA, seval, d74, yafx, n74, e74, List.drop_length, inF, List.foldl_nil]
 ·have hm := List.getElem_mem h
  have hh := he _ hm
  have hb := yaok (n := n) (hS _ hm)
  have L1 := yamc m i h (by omega) (hS _ hm) 0 (Nat.zero_le _) n (by omega)
  have L := ih (efF n m.instrs[i].effects) (by omega)
  have e : inF n (m.instrs.drop i) = inF (efF n m.instrs[i].effects) (m.instrs.drop (i + 1)) := by rw [List.drop_eq_getElem_cons h]; rfl
  rw [e]
  simp only [Int.natCast_zero, List.drop_zero] at L1
  simp (maxSteps := 1000000) -implicitDefEqProofs only [↓reduceIte, ↓cond_true, ↓cond_false, sr1, sr2, kA, seval, d74, yafx, n74, e74, dlt_t h, wi_nat (show i < 2 ^ 62 by omega), L1, L]
theorem yac4 (m : MMach) (hl : m.instrs.length < 1000) (he : ∀ s ∈ m.instrs, s.effects.length < 100) (hS : ∀ s ∈ m.instrs, ∀ x ∈ s.effects, SmE x) : zaq Tryz.prog (om Tryz.prog) 74 [zac m] ⟨0, []⟩ = some (.int .i64 ((inF 0 m.instrs : Nat) : Int), ⟨0, []⟩) := by
 have L := yamb m hl he hS 0 (Nat.zero_le _) 0 (by omega)
 simp only [Int.natCast_zero, List.drop_zero] at L
 rw [yaxp _ _ (by simp)]
 simp (maxSteps := 1000000) -implicitDefEqProofs only [↓reduceIte, ↓cond_true, ↓cond_false, sr1, sr2, kA, seval, d74, yafx, n74, e74, zac, zad, L]
def hdB (m : MMach) : Bool := decide (100 < (m.name.size : Int)) || (decide (74 < (m.regs.length : Int)) || (decide (26 < (m.banks.length : Int)) || (decide (18 < (m.units.length : Int)) || decide (74 < (m.instrs.length : Int)))))
def bkB (b : MBank) : Bool := decide (74 < (b.regs.length : Int)) || decide (100 < (b.name.size : Int))
def opB (o : MOpd) : Bool := decide (14 < (o.pieces.length : Int)) || decide (100 < (o.name.size : Int))
def efB (x : MEff) : Bool := zgb x.addr || (zgb x.value || zgb x.cond)
def inB (s : MInstr) : Bool := (decide (14 < (s.operands.length : Int)) || (decide (14 < (s.effects.length : Int)) || decide (100 < (s.name.size : Int)))) || (!s.operands.all (fun o => !opB o) || !s.effects.all (fun x => !efB x))
def zg1 (m : MMach) : Bool := hdB m || (!m.banks.all (fun b => !bkB b) || (!m.instrs.all (fun s => !inB s) || decide (1500 < (inF 0 m.instrs : Int))))
theorem yak9 (m : MMach) (hR : RawM m) : ∀ i, i ≤ m.banks.length → lim (some [1]) 0 (blk 0 (om Tryz.prog ⟨41, none⟩ 0 (.loop (lpb Tryz.f41 0)) ⟨⟨149, [(1, .ptr 0 0), (3, .int .i64 i)]⟩, [], zeh m⟩)) = bif (m.banks.drop i).all (fun b => !bkB b) then some (.normal, ⟨⟨149, [(1, .ptr 0 0)]⟩, [], zeh m⟩) else some (.ret, ⟨⟨149, [(2, .bool true)]⟩, [], ⟨0, []⟩⟩) := by
 have hu := hR.b
 refine zb8 ?_ (fun i h ih => ?_) <;> rw [zae]
 ·simp (maxSteps := 1000000) -implicitDefEqProofs only [↓reduceIte, ↓cond_true, ↓cond_false, sr1, sr2, kA, seval, d41, n41, ze9, zfa, zfb, e41, List.drop_length]
 ·rw [ze7 h]
  cases hb : decide (74 < (m.banks[i].regs.length : Int)) with
  | true => simp (maxSteps := 1000000) -implicitDefEqProofs only [↓reduceIte, ↓cond_true, ↓cond_false, sr1, sr2, kA, seval, d41, n41, ze9, zfa, zfb, e41, dlt_t h, ix_sl zab h, zem, hb, bkB]
  | false =>
   cases hc : decide (100 < (m.banks[i].name.size : Int)) with
   | true => simp (maxSteps := 1000000) -implicitDefEqProofs only [↓reduceIte, ↓cond_true, ↓cond_false, sr1, sr2, kA, seval, d41, n41, ze9, zfa, zfb, e41, dlt_t h, ix_sl zab h, zem, hb, hc, bkB]
   | false => simp (maxSteps := 1000000) -implicitDefEqProofs only [↓reduceIte, ↓cond_true, ↓cond_false, sr1, sr2, kA, seval, d41, n41, ze9, zfa, zfb, e41, dlt_t h, wi_nat (show i < 2 ^ 62 by omega), ix_sl zab h, zem, hb, hc, ih, show bkB m.banks[i] = false by unfold bkB; rw [hb, hc]; rfl]
abbrev ciH0 (m : MMach) (s : MInstr) : Heap := ⟨2, [some (.cells 27 (zad m)), some (.cells 113 (zi4 s))]⟩
theorem yalb (m : MMach) (s : MInstr) (hs : s.operands.length < 2 ^ 62) (j : Nat) : ∀ i, i ≤ s.operands.length → lim (some [1, 4, 5]) 0 (blk 4 (om Tryz.prog ⟨41, none⟩ 0 (.loop (lpb Tryz.f41 2)) ⟨⟨149, [(1, .ptr 0 0), (4, .int .i64 j), (5, .ptr 1 0), (6, .int .i64 i)]⟩, [], ciH0 m s⟩)) = bif (s.operands.drop i).all (fun o => !opB o) then some (.normal, ⟨⟨149, [(1, .ptr 0 0), (4, .int .i64 j), (5, .ptr 1 0)]⟩, [], ciH0 m s⟩) else some (.ret, ⟨⟨149, [(2, .bool true)]⟩, [], ⟨0, []⟩⟩) := by
 refine zb8 ?_ (fun i h ih => ?_) <;> rw [zae]
 ·simp (maxSteps := 1000000) -implicitDefEqProofs only [↓reduceIte, ↓cond_true, ↓cond_false, sr1, sr2, kA, seval, d41, n41, ze9, zfa, zfb, e41, List.drop_length]
 ·rw [ze7 h]
  cases hb : decide (14 < (s.operands[i].pieces.length : Int)) with
  | true => simp (maxSteps := 1000000) -implicitDefEqProofs only [↓reduceIte, ↓cond_true, ↓cond_false, sr1, sr2, kA, seval, d41, n41, ze9, zfa, zfb, e41, dlt_t h, ix_sl zab h, zbj, hb, opB]
  | false =>
   cases hc : decide (100 < (s.operands[i].name.size : Int)) with
   | true => simp (maxSteps := 1000000) -implicitDefEqProofs only [↓reduceIte, ↓cond_true, ↓cond_false, sr1, sr2, kA, seval, d41, n41, ze9, zfa, zfb, e41, dlt_t h, ix_sl zab h, zbj, hb, hc, opB]
   | false => simp (maxSteps := 1000000) -implicitDefEqProofs only [↓reduceIte, ↓cond_true, ↓cond_false, sr1, sr2, kA, seval, d41, n41, ze9, zfa, zfb, e41, dlt_t h, wi_nat (show i < 2 ^ 62 by omega), ix_sl zab h, zbj, hb, hc, ih, show opB s.operands[i] = false by unfold opB; rw [hb, hc]; rfl]
theorem yalc (m : MMach) (s : MInstr) (hs : s.effects.length < 2 ^ 62) (hT : ∀ x ∈ s.effects, RawT x.addr ∧ RawT x.value ∧ RawT x.cond) (j : Nat) : ∀ i, i ≤ s.effects.length → lim (some [1, 4]) 0 (blk 6 (om Tryz.prog ⟨41, none⟩ 0 (.loop (lpb Tryz.f41 3)) ⟨⟨149, [(1, .ptr 0 0), (4, .int .i64 j), (5, .ptr 1 0), (7, .int .i64 i)]⟩, [], ciH0 m s⟩)) = bif (s.effects.drop i).all (fun x => !efB x) then some (.normal, ⟨⟨149, [(1, .ptr 0 0), (4, .int .i64 j)]⟩, [], zeh m⟩) else some (.ret, ⟨⟨149, [(2, .bool true)]⟩, [], ⟨0, []⟩⟩) := by
 refine zb8 ?_ (fun i h ih => ?_) <;> rw [zae]
 ·simp (maxSteps := 1000000) -implicitDefEqProofs only [↓reduceIte, ↓cond_true, ↓cond_false, sr1, sr2, kA, seval, d41, n41, ze9, zfa, zfb, e41, List.drop_length]
 ·rw [ze7 h]
  obtain ⟨r1, r2, r3⟩ := hT _ (List.getElem_mem h)
  have ha := zne _ r1
  have hv := zne _ r2
  have hc := zne _ r3
  simp only [zag, zah] at ha hv hc
  cases q1 : zgb s.effects[i].addr with
  | true => simp (maxSteps := 1000000) -implicitDefEqProofs only [↓reduceIte, ↓cond_true, ↓cond_false, sr1, sr2, kA, seval, d41, n41, ze9, zfa, zfb, e41, dlt_t h, ix_sl zab h, zcp, ha, q1, efB]
  | false =>
   cases q2 : zgb s.effects[i].value with
   | true => simp (maxSteps := 1000000) -implicitDefEqProofs only [↓reduceIte, ↓cond_true, ↓cond_false, sr1, sr2, kA, seval, d41, n41, ze9, zfa, zfb, e41, dlt_t h, ix_sl zab h, zcp, ha, hv, q1, q2, efB]
   | false =>
    cases q3 : zgb s.effects[i].cond with
    | true => simp (maxSteps := 1000000) -implicitDefEqProofs only [↓reduceIte, ↓cond_true, ↓cond_false, sr1, sr2, kA, seval, d41, n41, ze9, zfa, zfb, e41, dlt_t h, ix_sl zab h, zcp, ha, hv, hc, q1, q2, q3, efB]
    | false => simp (maxSteps := 1000000) -implicitDefEqProofs only [↓reduceIte, ↓cond_true, ↓cond_false, sr1, sr2, kA, seval, d41, n41, ze9, zfa, zfb, e41, dlt_t h, wi_nat (show i < 2 ^ 62 by omega), ix_sl zab h, zcp, ha, hv, hc, q1, q2, q3, ih, show efB s.effects[i] = false by unfold efB; rw [q1, q2, q3]; rfl]
theorem yala (m : MMach) (hR : RawM m) : ∀ i, i ≤ m.instrs.length → lim (some [1]) 0 (blk 2 (om Tryz.prog ⟨41, none⟩ 0 (.loop (lpb Tryz.f41 1)) ⟨⟨149, [(1, .ptr 0 0), (4, .int .i64 i)]⟩, [], zeh m⟩)) = bif (m.instrs.drop i).all (fun s => !inB s) then some (.normal, ⟨⟨149, [(1, .ptr 0 0)]⟩, [], zeh m⟩) else some (.ret, ⟨⟨149, [(2, .bool true)]⟩, [], ⟨0, []⟩⟩) := by
 have hu := hR.i
 refine zb8 ?_ (fun i h ih => ?_) <;> rw [zae]
 ·simp (maxSteps := 1000000) -implicitDefEqProofs only [↓reduceIte, ↓cond_true, ↓cond_false, sr1, sr2, kA, seval, d41, n41, ze9, zfa, zfb, e41, List.drop_length]
 ·rw [ze7 h]
  have hm := List.getElem_mem h
  have L2 := yalb m m.instrs[i] (hR.o _ hm) i 0 (Nat.zero_le _)
  have L3 := yalc m m.instrs[i] (hR.e _ hm) (hR.t _ hm) i 0 (Nat.zero_le _)
  have hI : inB m.instrs[i] = ((decide (14 < (m.instrs[i].operands.length : Int)) || (decide (14 < (m.instrs[i].effects.length : Int)) || decide (100 < (m.instrs[i].name.size : Int)))) || (!m.instrs[i].operands.all (fun o => !opB o) || !m.instrs[i].effects.all (fun x => !efB x))) := rfl
  simp only [Int.natCast_zero, List.drop_zero, ciH0] at L2 L3
  rw [hI]
  cases q1 : decide (14 < (m.instrs[i].operands.length : Int)) with
  | true => simp (maxSteps := 1000000) -implicitDefEqProofs only [↓reduceIte, ↓cond_true, ↓cond_false, sr1, sr2, kA, seval, d41, n41, ze9, zfa, zfb, e41, dlt_t h, ix_sl zab h, zaf, q1]
  | false =>
  cases q2 : decide (14 < (m.instrs[i].effects.length : Int)) with
  | true => simp (maxSteps := 1000000) -implicitDefEqProofs only [↓reduceIte, ↓cond_true, ↓cond_false, sr1, sr2, kA, seval, d41, n41, ze9, zfa, zfb, e41, dlt_t h, ix_sl zab h, zaf, q1, q2]
  | false =>
  cases q3 : decide (100 < (m.instrs[i].name.size : Int)) with
  | true => simp (maxSteps := 1000000) -implicitDefEqProofs only [↓reduceIte, ↓cond_true, ↓cond_false, sr1, sr2, kA, seval, d41, n41, ze9, zfa, zfb, e41, dlt_t h, ix_sl zab h, zaf, q1, q2, q3]
  | false =>
  cases q4 : m.instrs[i].operands.all (fun o => !opB o) with
  | false =>
   rw [q4] at L2
   simp (maxSteps := 1000000) -implicitDefEqProofs only [↓reduceIte, ↓cond_true, ↓cond_false, sr1, sr2, kA, seval, d41, n41, ze9, zfa, zfb, e41, dlt_t h, ix_sl zab h, zaf, q1, q2, q3, L2]
  | true =>
  rw [q4] at L2
  cases q5 : m.instrs[i].effects.all (fun x => !efB x) with
  | false =>
   rw [q5] at L3
   simp (maxSteps := 1000000) -implicitDefEqProofs only [↓reduceIte, ↓cond_true, ↓cond_false, sr1, sr2, kA, seval, d41, n41, ze9, zfa, zfb, e41, dlt_t h, ix_sl zab h, zaf, q1, q2, q3, L2, L3]
  | true =>
   rw [q5] at L3
   simp (maxSteps := 1000000) -implicitDefEqProofs only [↓reduceIte, ↓cond_true, ↓cond_false, sr1, sr2, kA, seval, d41, n41, ze9, zfa, zfb, e41, dlt_t h, wi_nat (show i < 2 ^ 62 by omega), ix_sl zab h, zaf, q1, q2, q3, L2, L3, ih]
structure SmM (m : MMach) : Prop where
 n : m.name.size ≤ 100
 r : m.regs.length ≤ 74
 b : m.banks.length ≤ 26
 u : m.units.length ≤ 18
 i : m.instrs.length ≤ 74
 br : ∀ b ∈ m.banks, b.regs.length ≤ 74 ∧ b.name.size ≤ 100
 s : ∀ s ∈ m.instrs, s.operands.length ≤ 14 ∧ s.effects.length ≤ 14 ∧ s.name.size ≤ 100
 o : ∀ s ∈ m.instrs, ∀ o ∈ s.operands, o.pieces.length ≤ 14 ∧ o.name.size ≤ 100
 t : ∀ s ∈ m.instrs, ∀ x ∈ s.effects, zgb x.addr = false ∧ zgb x.value = false ∧ zgb x.cond = false
theorem ya1k {m : MMach} (h0 : hdB m = false) (h1 : m.banks.all (fun b => !bkB b) = true) (h2 : m.instrs.all (fun s => !inB s) = true) : SmM m := by
 unfold hdB at h0
 simp only [Bool.or_eq_false_iff, decide_eq_false_iff_not] at h0
 rw [List.all_eq_true] at h1 h2
 have i1 : ∀ s ∈ m.instrs, inB s = false := fun s hs => by simpa using h2 s hs
 have b1 : ∀ b ∈ m.banks, bkB b = false := fun b hb => by simpa using h1 b hb
 refine ⟨by omega, by omega, by omega, by omega, by omega, fun b hb => ?_, fun s hs => ?_, fun s hs o ho => ?_, fun s hs x hx => ?_⟩
 ·have := b1 b hb
  unfold bkB at this
  simp only [Bool.or_eq_false_iff, decide_eq_false_iff_not] at this
  omega
 ·have := i1 s hs
  unfold inB at this
  simp only [Bool.or_eq_false_iff, decide_eq_false_iff_not] at this
  omega
 ·have := i1 s hs
  unfold inB at this
  simp only [Bool.or_eq_false_iff, Bool.not_eq_false', List.all_eq_true] at this
  have := this.2.1 o ho
  unfold opB at this
  simp only [Bool.not_eq_true', Bool.or_eq_false_iff, decide_eq_false_iff_not] at this
  omega
 ·have := i1 s hs
  unfold inB at this
  simp only [Bool.or_eq_false_iff, Bool.not_eq_false', List.all_eq_true] at this
  have := this.2.2 x hx
  unfold efB at this
  simpa using this
theorem yacv (m : MMach) (hR : RawM m) : zaq Tryz.prog (om Tryz.prog) 41 [zac m] ⟨0, []⟩ = some (.bool (zg1 m), ⟨0, []⟩) := by
 have L0 := yak9 m hR 0 (Nat.zero_le _)
 have L1 := yala m hR 0 (Nat.zero_le _)
 simp only [Int.natCast_zero, List.drop_zero] at L0 L1
 unfold zg1
 have hh : hdB m = (decide (100 < (m.name.size : Int)) || (decide (74 < (m.regs.length : Int)) || (decide (26 < (m.banks.length : Int)) || (decide (18 < (m.units.length : Int)) || decide (74 < (m.instrs.length : Int)))))) := rfl
 rw [yaw6 _ _ (by simp)]
 cases h0 : hdB m with
 | true =>
  rw [h0] at hh
  have hh := hh.symm
  simp (maxSteps := 1000000) -implicitDefEqProofs only [↓reduceIte, ↓cond_true, ↓cond_false, sr1, sr2, kA, seval, d41, n41, ze9, zfa, zfb, e41, zac, zad, hh, Bool.or_assoc]
 | false =>
  rw [h0] at hh
  have hh := hh.symm
  cases h1 : m.banks.all (fun b => !bkB b) with
  | false =>
   rw [h1] at L0
   simp (maxSteps := 1000000) -implicitDefEqProofs only [↓reduceIte, ↓cond_true, ↓cond_false, sr1, sr2, kA, seval, d41, n41, ze9, zfa, zfb, e41, zac, zad, hh, Bool.or_assoc, L0]
  | true =>
   rw [h1] at L0
   cases h2 : m.instrs.all (fun s => !inB s) with
   | false =>
    rw [h2] at L1
    simp (maxSteps := 1000000) -implicitDefEqProofs only [↓reduceIte, ↓cond_true, ↓cond_false, sr1, sr2, kA, seval, d41, n41, ze9, zfa, zfb, e41, zac, zad, hh, Bool.or_assoc, L0, L1]
   | true =>
    rw [h2] at L1
    have hs := ya1k h0 h1 h2
    have hN := yac4 m (by have := hs.i; omega) (fun s q => by have := (hs.s s q).2.1; omega) (fun s q x qx => by
     obtain ⟨t1, t2, t3⟩ := hs.t s q x qx
     exact ⟨(zl5 t1).1, (zl5 t2).1, (zl5 t3).1⟩)
    simp only [zac, zad] at hN
    simp (maxSteps := 1000000) -implicitDefEqProofs only [↓reduceIte, ↓cond_true, ↓cond_false, sr1, sr2, kA, seval, d41, n41, ze9, zfa, zfb, e41, zac, zad, hh, Bool.or_assoc, L0, L1, hN]
theorem zl4 {m : MMach} (h : zg1 m = false) : SmM m := by
 unfold zg1 at h
 simp only [Bool.or_eq_false_iff, Bool.not_eq_false'] at h
 exact ya1k h.1 h.2.1 h.2.2.1
structure NumT (t : MTerm) : Prop where
 k : ∀ x ∈ t.nodes, 0 ≤ x.kd
 b : ∀ x ∈ t.nodes, x.bt < 18446744073709551616
structure NumM (m : MMach) : Prop where
 rn : ∀ r ∈ m.regs, r.name.size < 2 ^ 62
 un : ∀ r ∈ m.units, r.name.size < 2 ^ 62
 s : ∀ s ∈ m.instrs, 0 ≤ s.mask ∧ s.mask < 2 ^ 64 ∧ 0 ≤ s.mat ∧ s.mat < 2 ^ 64
 t : ∀ s ∈ m.instrs, ∀ x ∈ s.effects, NumT x.addr ∧ NumT x.value ∧ NumT x.cond
theorem yahs {t : MTerm} (h : zgb t = false) (hn : NumT t) : POk t := by
 obtain ⟨h1, h2⟩ := zl5 h
 exact ⟨⟨by omega, fun x hx => ⟨hn.k x hx, hn.b x hx, by have := h2 x hx; omega⟩⟩, by omega⟩
theorem yaa0 {m : MMach} (h : SmM m) (hn : NumM m) : NOk8 m := by
 have xk : ∀ s ∈ m.instrs, ∀ x ∈ s.effects, XOk x := fun s hs x hx =>
  ⟨yahs (h.t s hs x hx).1 (hn.t s hs x hx).1, yahs (h.t s hs x hx).2.1 (hn.t s hs x hx).2.1, yahs (h.t s hs x hx).2.2 (hn.t s hs x hx).2.2⟩
 refine ⟨⟨by have := h.r; omega, by have := h.b; omega, by have := h.u; omega, by have := h.i; omega, fun b hb => by have := (h.br b hb).1; omega, fun s hs => by have := (h.s s hs).1; omega, fun s hs => by have := (h.s s hs).2.1; omega, fun s hs o ho => by have := (h.o s hs o ho).1; omega⟩, ⟨hn.rn, fun b hb => by have := (h.br b hb).2; omega, hn.un, fun s hs => by have := (h.s s hs).2.2; omega, fun s hs o ho => by have := (h.o s hs o ho).2; omega⟩, by have := h.n; omega, fun s hs => ?_⟩
 obtain ⟨m0, m1, a0, a1⟩ := hn.s s hs
 refine ⟨⟨by have := (h.s s hs).1; omega, fun o ho => by have := (h.o s hs o ho).1; omega, fun o ho => by have := (h.o s hs o ho).2; omega, by have := (h.s s hs).2.1; omega, fun x hx => ?_⟩, xk s hs, m0, m1, a0, a1⟩
 have k := xk s hs x hx
 exact ⟨k.a.f.t, k.v.f.t, k.c.f.t⟩
theorem yaav {m : MMach} (h : NOk8 m) : MOk m := ⟨h.b, h.s, h.n, fun s hs => (h.i s hs).i⟩
def zer (n : Nat) : List AV := List.replicate n (.int .u64 0)
theorem zsv : ∀ n, zca [.int .u64 0] n = zer n
 | 0 => rfl
 | n + 1 => by rw [zca, zsv n]; rfl
theorem zm3 {n : Nat} : zer (n + 1) = .int .u64 0 :: zer n := rfl
theorem yavn {n : Nat} : zer n ++ [.int .u64 0] = zer (n + 1) := by
 unfold zer; rw [List.replicate_succ', ]
theorem zkb : ∀ {n}, AV.refsL (zer n) = []
 | 0 => rfl
 | n + 1 => by rw [zm3, refsL_cons, zkb]; rfl
theorem znw {ρ : Nat → Nat} : ∀ {n}, AV.renL ρ (zer n) = zer n
 | 0 => rfl
 | n + 1 => by rw [zm3, renL_cons, znw]; rfl
theorem yavo {n : Nat} : (zer n).length = n := by simp [zer]
theorem zxj : ∀ {n}, zby (zer n) = true
 | 0 => rfl
 | n + 1 => by have := zxj (n := n); simp [zby, zdr, zm3] at this ⊢; exact this
theorem zw4 (m : MMach) (hm : MOk m) : zaq Tryz.prog (om Tryz.prog) 42 [zac m] ⟨0, []⟩ = bif decide (zb1 m = 0) then (match valI (za1 m) with | some (v, H) => some (.tup [v, .int .i64 0], H) | none => none) else some (.tup [zbs, .int .i64 (zb1 m)], ⟨0, []⟩) := by
 have hC := zj2 m hm
 have hT := yab5 m hm.b
 simp only [zac, zad] at hC hT
 rw [yaw7 _ _ (by simp)]
 cases h : decide (zb1 m = 0) with
 | false => simp (maxSteps := 1000000) -implicitDefEqProofs only [↓reduceIte, ↓cond_true, ↓cond_false, sr1, sr2, kA, seval, d42, n42, zac, zad, hC, h, zbs]
 | true =>
  cases hv : za1 m with
  | nil =>
   rw [hv, zpa] at hT
   simp (maxSteps := 1000000) -implicitDefEqProofs only [↓reduceIte, ↓cond_true, ↓cond_false, sr1, sr2, kA, seval, d42, n42, zac, zad, hC, h, hT, zbs, zpa]
  | cons x l =>
   rw [hv, zf0] at hT
   simp (maxSteps := 1000000) -implicitDefEqProofs only [↓reduceIte, ↓cond_true, ↓cond_false, sr1, sr2, kA, seval, d42, n42, zac, zad, hC, h, hT, zf0, zai, zak]
def newV (m : MMach) : Rv := bif decide (zb1 m = 0) then some (.tup [.agg [.sl 0 0 (za1 m).length 1, zbs, .int .u64 0, .int .i64 0], .int .i64 0], ⟨1, [some (.cells 30 (zer (za1 m).length))]⟩) else some (.tup [.agg [zbs, zbs, .int .u64 0, .int .i64 0], .int .i64 (zb1 m)], ⟨0, []⟩)
theorem zfd {m : MMach} (hm : Bd m) : (za1 m).length ≤ m.regs.length := by
 have : ∀ (l : List MReg) (i : Nat), (zcs i l).length ≤ l.length := by
  intro l
  induction l with
  | nil => intro i; simp [zcs]
  | cons r l ih =>
   intro i
   simp only [zcs]
   have := ih (i + 1)
   cases decide (r.of_ = -1) <;> simp <;> omega
 exact this _ 0
theorem zt7 (m : MMach) (hm : MOk m) : zaq Tryz.prog (om Tryz.prog) 13 [zac m] ⟨0, []⟩ = newV m := by
 have hR := zw4 m hm
 have ht := zfd hm.b
 have hr := hm.b.r
 simp only [zac, zad] at hR
 unfold newV
 rw [yawt _ _ (by simp)]
 cases h : decide (zb1 m = 0) with
 | false =>
  rw [h] at hR
  simp only [cond_false, zbs] at hR
  simp (maxSteps := 1000000) -implicitDefEqProofs only [↓reduceIte, ↓cond_true, ↓cond_false, sr1, sr2, kA, seval, d13, ya0q, n13, zac, zad, hR, h, zbs]
 | true =>
  have h' := of_decide_eq_true h
  rw [h] at hR
  cases hv : za1 m with
  | nil => exact absurd hv (zra (zg5 h'))
  | cons x l =>
   rw [hv, zf0] at hR
   simp only [cond_true] at hR
   rw [hv] at ht
   simp only [List.length_cons] at ht
   have mk := fun H => mks_eq (H := H) (e := 30) (n := 1) (w := 8) (z := [.int .u64 0]) (l := ((l.length + 1 : Nat) : Int)) (c := ((l.length + 1 : Nat) : Int)) (by simp [zby, zdr]; omega)
   rw [Int.toNat_natCast, zsv] at mk
   simp (maxSteps := 1000000) -implicitDefEqProofs only [↓reduceIte, ↓cond_true, ↓cond_false, sr1, sr2, kA, seval, d13, ya0q, n13, zac, zad, hR, h, mk, zkb, znw, zai, zak, zbs]
   trace_state
abbrev zst : List AV := [zbs, zbs, .int .u64 0, .int .i64 0]
abbrev frH (m : MMach) (k : Nat) : Heap := ⟨4, [some (.cells 27 (zad m)), some (.cells 32 zst), some (.cells 32 [.sl 3 0 (k + 1) 1, zbs, .int .u64 0, .int .i64 0]), some (.cells 30 (.int .u64 0 :: zer k))]⟩
theorem yak3 (m : MMach) (hB : Bd m) (x : Int) (l : List Int) (hv : za1 m = x :: l) : ∀ i, i ≤ l.length → lim (some [2, 3]) 0 (blk 0 (om Tryz.prog ⟨44, none⟩ 0 (.loop (lpb Tryz.f44 0)) ⟨⟨18, [(1, .ptr 0 0), (2, .ptr 1 0), (3, .ptr 2 0), (4, .int .i64 ((i + 1 : Nat) : Int))]⟩, [], frH m i⟩)) =
  some (.normal, ⟨⟨18, [(2, .ptr 0 0), (3, .ptr 1 0)]⟩, [], ⟨3, [some (.cells 32 zst), some (.cells 32 [.sl 2 0 (l.length + 1) 1, zbs, .int .u64 0, .int .i64 0]), some (.cells 30 (.int .u64 0 :: zer l.length))]⟩⟩) := by
 have hT := zq9 m hB
 have ht := zfd hB
 have hr := hB.r
 rw [hv, zf0] at hT
 rw [hv] at ht
 simp only [List.length_cons] at ht
 simp only [zac, zad] at hT
 refine zb8 ?_ (fun i h ih => ?_) <;> rw [zae]
 ·have hd : decide (((l.length + 1 : Nat) : Int) < ((l.length + 1 : Nat) : Int)) = false := decide_eq_false (by omega)
  simp (maxSteps := 1000000) -implicitDefEqProofs only [↓reduceIte, ↓cond_true, ↓cond_false, sr1, sr2, kA, seval, d44, yamn, n44, e44, hT, hd, zkb, znw, zai, zak, zbs]
 ·have hd : decide (((i + 1 : Nat) : Int) < ((l.length + 1 : Nat) : Int)) = true := decide_eq_true (by omega)
  have f1 : zsd 8 (i + 1) 1 = true := zdf (by omega) (by decide)
  have ez : ∀ a : AV, a = .int .u64 0 → zer i ++ [a] = .int .u64 0 :: zer i := fun a e => by rw [e, yavn]; rfl
  simp only [frH, zm3] at ih
  simp (maxSteps := 1000000) -implicitDefEqProofs only [↓reduceIte, ↓cond_true, ↓cond_false, sr1, sr2, kA, seval, d44, yamn, n44, e44, hT, hd, wi_nat (show i + 1 < 2 ^ 62 by omega), f1, ez, zkb, znw, zxj, yavo, zai, zak, zbs, ih]
theorem yak2 (m : MMach) (hB : Bd m) (x : Int) (l : List Int) (hv : za1 m = x :: l) : lim (some [2, 3]) 0 (blk 0 (om Tryz.prog ⟨44, none⟩ 0 (.loop (lpb Tryz.f44 0)) ⟨⟨18, [(1, .ptr 0 0), (2, .ptr 1 0), (3, .ptr 2 0), (4, .int .i64 0)]⟩, [], ⟨3, [some (.cells 27 (zad m)), some (.cells 32 zst), some (.cells 32 zst)]⟩⟩)) =
  some (.normal, ⟨⟨18, [(2, .ptr 0 0), (3, .ptr 1 0)]⟩, [], ⟨3, [some (.cells 32 zst), some (.cells 32 [.sl 2 0 (l.length + 1) 1, zbs, .int .u64 0, .int .i64 0]), some (.cells 30 (.int .u64 0 :: zer l.length))]⟩⟩) := by
 have hT := zq9 m hB
 rw [hv, zf0] at hT
 simp only [zac, zad] at hT
 have L := yak3 m hB x l hv 0 (Nat.zero_le _)
 have z0 : zer 0 = [] := rfl
 have hd : decide ((0 : Int) < ((l.length + 1 : Nat) : Int)) = true := decide_eq_true (by omega)
 simp only [frH, z0, zbs, Nat.zero_add, Int.natCast_one] at L
 rw [zae]
 simp (maxSteps := 1000000) -implicitDefEqProofs only [↓reduceIte, ↓cond_true, ↓cond_false, sr1, sr2, kA, seval, d44, yamn, n44, e44, hT, hd, zdf, zai, zak, zbs, L]
theorem yaco (m : MMach) (hB : Bd m) (x : Int) (l : List Int) (hv : za1 m = x :: l) : zaq Tryz.prog (om Tryz.prog) 44 [zac m] ⟨0, []⟩ = some (.agg [.sl 0 0 (l.length + 1) 1, zbs, .int .u64 0, .int .i64 0], ⟨1, [some (.cells 30 (.int .u64 0 :: zer l.length))]⟩) := by
 have L := yak2 m hB x l hv
 simp only [zbs] at L
 rw [yaw9 _ _ (by simp)]
 simp (maxSteps := 1000000) -implicitDefEqProofs only [↓reduceIte, ↓cond_true, ↓cond_false, sr1, sr2, kA, seval, d44, yamn, n44, e44, zac, zad, L, zkb, znw, zbs]
theorem zo1 (m : MMach) (hm : NOk8 m) : zaq Tryz.prog (om Tryz.prog) 14 [zac m] ⟨0, []⟩ = newV m := by
 have hC := zhw m hm
 rw [zyk m hm] at hC
 simp only [zac, zad] at hC
 unfold newV
 rw [yawu _ _ (by simp)]
 cases h : decide (zb1 m = 0) with
 | false => simp (maxSteps := 1000000) -implicitDefEqProofs only [↓reduceIte, ↓cond_true, ↓cond_false, sr1, sr2, kA, seval, d14, ya0r, n14, zac, zad, hC, h, zbs]
 | true =>
  have h' := of_decide_eq_true h
  cases hv : za1 m with
  | nil => exact absurd hv (zra (zg5 h'))
  | cons x l =>
   have hF := yaco m hm.b x l hv
   simp only [zac, zad] at hF
   simp (maxSteps := 1000000) -implicitDefEqProofs only [↓reduceIte, ↓cond_true, ↓cond_false, sr1, sr2, kA, seval, d14, ya0r, n14, zac, zad, hC, h, hF, zbs, zkb, znw, zm3]
theorem yamt (m : MMach) (hm : MOk m) (h : zb1 m = 0) : zaq Tryz.prog (om Tryz.prog) 42 [zac m] ⟨0, []⟩ = some (.tup [.sl 0 0 (za1 m).length 1, .int .i64 0], ⟨1, [some (.cells 3 ((za1 m).map zdt))]⟩) := by
 have hR := zw4 m hm
 have hn := zra (zg5 h)
 rw [hR, decide_eq_true h]
 unfold valI
 rw [if_neg hn]; rfl
theorem yaiy (m : MMach) (hB : Bd m) (h : zb1 m = 0) : zaq Tryz.prog (om Tryz.prog) 75 [zac m] ⟨0, []⟩ = some (.sl 0 0 (za1 m).length 1, ⟨1, [some (.cells 3 ((za1 m).map zdt))]⟩) := by
 rw [yab5 m hB, valI, if_neg (zra (zg5 h))]
theorem zuu (m : MMach) (hB : Bd m) (h : zb1 m = 0) : zaq Tryz.prog (om Tryz.prog) 83 [zac m] ⟨0, []⟩ = some (.sl 0 0 (za1 m).length 1, ⟨1, [some (.cells 3 ((za1 m).map zdt))]⟩) := by
 rw [zq9 m hB, valI, if_neg (zra (zg5 h))]
theorem zw3 : ∀ {l : List MReg} {i : Nat} {x : Int}, x ∈ zcs i l → ∃ k, x = ((i + k : Nat) : Int) ∧ k < l.length
 | r :: l, i, x, h => by
  have tail : x ∈ zcs (i + 1) l → ∃ k, x = ((i + k : Nat) : Int) ∧ k < (r :: l).length := fun h => by
   obtain ⟨k, e, hk⟩ := zw3 h
   exact ⟨k + 1, by rw [e]; omega, by simp; omega⟩
  simp only [zcs] at h
  cases hd : decide (r.of_ = -1) with
  | true =>
   rw [hd] at h
   simp only [cond_true, List.mem_cons] at h
   rcases h with rfl | h
   ·exact ⟨0, by simp, by simp⟩
   ·exact tail h
  | false =>
   rw [hd] at h
   exact tail h
theorem yab4 {m : MMach} {x : Int} (h : x ∈ za1 m) : 0 ≤ x ∧ x.toNat < m.regs.length := by
 obtain ⟨k, e, hk⟩ := zw3 h
 omega
theorem zkq {l : List Int} {i : Nat} (h : i < l.length) : (l.map zdt)[i]? = some (.int .i64 l[i]) := by simp [h, zdt]
def zry (m : MMach) (s : MState) (i : Nat) : Bool := okB (ze3 m ((za1 m).getD i 0)) (s.regs.getD i 0)
def yaar (l : List MCell) : Int := match l[l.length - 1]? with | some c => c.at_ | none => 0
def yatu (m : MMach) (s : MState) : Bool := decide ((s.mem.length : Int) = 0) || okB m.address (yaar s.mem)
def zp5 (m : MMach) (s : MState) : Bool := decide ((s.regs.length : Int) = ((za1 m).length : Int)) && (zh8 s.mem && (okB m.address s.pc && (decide (0 ≤ s.cycles) && decide (s.cycles ≤ 1099511627776))))
def zjo (m : MMach) (s : MState) : Bool := zp5 m s && (zb9 (zry m s) 0 (za1 m).length && yatu m s)
structure StOk (r v : Sv) (s : MState) : Prop where
 r : SvOk r 1 s.regs.length
 v : SvOk v 2 s.mem.length
 rl : s.regs.length < 2 ^ 62
 vl : s.mem.length < 2 ^ 62
abbrev stC (r v : Sv) (s : MState) : List AV := [.rsl r.a r.c r.z (s.regs.map zcc), .rsl v.a v.c v.z (s.mem.map za0), .int .u64 s.pc, .int .i64 s.cycles]
abbrev msH (m : MMach) (r v : Sv) (s : MState) : Heap := ⟨2, [some (.cells 27 (zad m)), some (.cells 32 (stC r v s))]⟩
abbrev msrH (m : MMach) (r v : Sv) (s : MState) : Heap := ⟨3, [some (.cells 27 (zad m)), some (.cells 32 (stC r v s)), some (.cells 3 ((za1 m).map zdt))]⟩
theorem yavg (m : MMach) (hB : Bd m) (r v : Sv) (s : MState) (hs : StOk r v s) (hl : s.regs.length = (za1 m).length) : ∀ i, i ≤ (za1 m).length → lim (some [2, 3]) 0 (blk 0 (om Tryz.prog ⟨46, none⟩ 0 (.loop (lpb Tryz.f46 0)) ⟨⟨83, [(2, .ptr 0 0), (3, .ptr 1 0), (44, .sl 2 0 (za1 m).length 1), (45, .int .i64 (za1 m).length), (46, .int .i64 i)]⟩, [], msrH m r v s⟩)) =
  bif zb9 (zry m s) i (za1 m).length then some (.normal, ⟨⟨83, [(2, .ptr 0 0), (3, .ptr 1 0)]⟩, [], msH m r v s⟩) else some (.ret, ⟨⟨83, [(4, .bool false)]⟩, [], ⟨0, []⟩⟩) := by
 have ht := zfd hB
 have hr := hB.r
 refine zb8 ?_ (fun i h ih => ?_) <;> rw [zae]
 ·simp (maxSteps := 1000000) -implicitDefEqProofs only [↓reduceIte, ↓cond_true, ↓cond_false, sr1, sr2, kA, seval, d46, zp4, ziy, n46, e46, zba, zai, zak]
 ·have hi2 : i < s.regs.length := by omega
  have hx := zl7 (f := zcc) (k := .i64) hs.r hi2
  have hm := yab4 (List.getElem_mem h)
  have eO : zry m s i = okB (m.regs[(za1 m)[i].toNat]'hm.2).width s.regs[i] := by
   unfold zry
   rw [zcq h, zcq hi2, zcf hm.2]
  rw [zbr h, eO]
  cases hq : okB (m.regs[(za1 m)[i].toNat]'hm.2).width s.regs[i] with
  | true => simp (maxSteps := 1000000) -implicitDefEqProofs only [↓reduceIte, ↓cond_true, ↓cond_false, sr1, sr2, kA, seval, d46, zp4, ziy, n46, e46, dlt_t h, wi_nat (show i < 2 ^ 62 by omega), Go.Ab.ix_sl h, zkq h, ix_z zab hm.1 hm.2, zei, hx, zcc, zmj, hq, ih, zai, zak]
  | false => simp (maxSteps := 1000000) -implicitDefEqProofs only [↓reduceIte, ↓cond_true, ↓cond_false, sr1, sr2, kA, seval, d46, zp4, ziy, n46, e46, dlt_t h, Go.Ab.ix_sl h, zkq h, ix_z zab hm.1 hm.2, zei, hx, zcc, zmj, hq, zai, zak]
theorem zld {l : List MCell} {j : Nat} (h : l.length = j + 1) : yaar l = (l[j]'(by omega)).at_ := by
 unfold yaar
 have e : l.length - 1 = j := by omega
 rw [e, List.getElem?_eq_getElem (show j < l.length by omega)]
theorem yajh (m : MMach) (hm : MOk m) (h : zb1 m = 0) (r v : Sv) (s : MState) (hs : StOk r v s) : zaq Tryz.prog (om Tryz.prog) 46 [zac m, stV r v s] ⟨0, []⟩ = some (.bool (zjo m s), ⟨0, []⟩) := by
 have hR := yamt m hm h
 have hC := zvn v s.mem hs.v hs.vl
 have hO := zmj m.address s.pc
 simp only [zac, zad] at hR
 have n0 : decide (s.cycles < 0) = !decide (0 ≤ s.cycles) := by rw [zbg, Bool.not_not]
 have n1 : decide (1099511627776 < s.cycles) = !decide (s.cycles ≤ 1099511627776) := by rw [zbg, Bool.not_not]
 unfold zjo zp5
 rw [yaxb _ _ (by simp)]
 cases c1 : decide ((s.regs.length : Int) = ((za1 m).length : Int)) with
 | false => simp (maxSteps := 1000000) -implicitDefEqProofs only [↓reduceIte, ↓cond_true, ↓cond_false, sr1, sr2, kA, seval, d46, zp4, ziy, n46, e46, zac, zad, stV, hR, zai, zak, c1]
 | true =>
 cases c2 : zh8 s.mem with
 | false =>
  rw [c2] at hC
  simp (maxSteps := 1000000) -implicitDefEqProofs only [↓reduceIte, ↓cond_true, ↓cond_false, sr1, sr2, kA, seval, d46, zp4, ziy, n46, e46, zac, zad, stV, hR, zai, zak, c1, hC]
 | true =>
 rw [c2] at hC
 cases c3 : okB m.address s.pc with
 | false => simp (maxSteps := 1000000) -implicitDefEqProofs only [↓reduceIte, ↓cond_true, ↓cond_false, sr1, sr2, kA, seval, d46, zp4, ziy, n46, e46, zac, zad, stV, hR, zai, zak, c1, hC, hO, c3]
 | true =>
 cases c4 : decide (0 ≤ s.cycles) with
 | false => simp (maxSteps := 1000000) -implicitDefEqProofs only [↓reduceIte, ↓cond_true, ↓cond_false, sr1, sr2, kA, seval, d46, zp4, ziy, n46, e46, zac, zad, stV, hR, zai, zak, c1, hC, hO, c3, n0, c4]
 | true =>
 cases c5 : decide (s.cycles ≤ 1099511627776) with
 | false => simp (maxSteps := 1000000) -implicitDefEqProofs only [↓reduceIte, ↓cond_true, ↓cond_false, sr1, sr2, kA, seval, d46, zp4, ziy, n46, e46, zac, zad, stV, hR, zai, zak, c1, hC, hO, c3, n0, c4, n1, c5]
 | true =>
 have hl : s.regs.length = (za1 m).length := by have := of_decide_eq_true c1; omega
 have L := yavg m hm.b r v s hs hl 0 (Nat.zero_le _)
 simp only [Int.natCast_zero] at L
 cases c6 : zb9 (zry m s) 0 (za1 m).length with
 | false =>
  rw [c6] at L
  simp (maxSteps := 1000000) -implicitDefEqProofs only [↓reduceIte, ↓cond_true, ↓cond_false, sr1, sr2, kA, seval, d46, zp4, ziy, n46, e46, zac, zad, stV, hR, zai, zak, c1, hC, hO, c3, n0, c4, n1, c5, L]
 | true =>
 rw [c6] at L
 unfold yatu
 cases c7 : decide ((s.mem.length : Int) = 0) with
 | true => simp (maxSteps := 1000000) -implicitDefEqProofs only [↓reduceIte, ↓cond_true, ↓cond_false, sr1, sr2, kA, seval, d46, zp4, ziy, n46, e46, zac, zad, stV, hR, zai, zak, c1, hC, hO, c3, n0, c4, n1, c5, L, c7]
 | false =>
  have hne := of_decide_eq_false c7
  obtain ⟨j, hj⟩ : ∃ j, s.mem.length = j + 1 := ⟨s.mem.length - 1, by omega⟩
  have hv := hs.vl
  have hx := zl7 (f := za0) (k := .i64) hs.v (show j < s.mem.length by omega)
  have ew : IntKind.i64.wrap ((s.mem.length : Int) - 1) = (j : Int) := by rw [hj]; exact zrd (by omega)
  have ea := zld hj
  simp (maxSteps := 1000000) -implicitDefEqProofs only [↓reduceIte, ↓cond_true, ↓cond_false, sr1, sr2, kA, seval, d46, zp4, ziy, n46, e46, zac, zad, stV, hR, zai, zak, c1, hC, hO, c3, n0, c4, n1, c5, L, c7, ew, hx, za0, zmj, ea]
theorem zj1 (n : Int) : zaq Tryz.prog (om Tryz.prog) 59 [.int .i64 n] ⟨0, []⟩ = some (.int .u64 (zcb n), ⟨0, []⟩) := by
 rw [yaxm _ _ (by simp)]
 cases h : inR n 1 64 with
 | false =>
  have e : zcb n = 0 := by unfold zcb; rw [if_neg (by rw [h]; decide)]
  simp (maxSteps := 1000000) -implicitDefEqProofs only [↓reduceIte, ↓cond_true, ↓cond_false, sr1, sr2, kA, seval, d59, n59, zcz, h, e]
 | true =>
  have hn : 1 ≤ n ∧ n ≤ 64 := by simpa [inR] using h
  obtain ⟨k, hk⟩ : ∃ k : Nat, n = ((k + 1 : Nat) : Int) := ⟨(n - 1).toNat, by omega⟩
  have hp := zlh k (by omega)
  have ew : IntKind.i64.wrap (n - 1) = (k : Int) := by rw [zjp (by omega) (by omega)]; omega
  have hm : zcb n = ((2 ^ (k + 1) - 1 : Nat) : Int) := by rw [hk]; exact zeb (by omega) (by omega)
  have p1 := Nat.two_pow_pos k
  have p2 : 2 ^ (k + 1) ≤ 18446744073709551616 := by
   have : 2 ^ (k + 1) ≤ 2 ^ 64 := Nat.pow_le_pow_right (by decide) (by omega)
   simpa using this
  have p3 : 2 ^ (k + 1) = 2 ^ k + 2 ^ k := by rw [Nat.pow_succ]; omega
  have e1 : IntKind.u64.wrap (((2 ^ k : Nat) : Int) - 1) = ((2 ^ k - 1 : Nat) : Int) := by
   generalize 2 ^ k = q at p1 p3
   rw [ze0 (by omega) (by omega)]; omega
  have e2 : IntKind.u64.wrap (((2 ^ k - 1 : Nat) : Int) + ((2 ^ k : Nat) : Int)) = ((2 ^ (k + 1) - 1 : Nat) : Int) := by
   rw [p3] at p2 ⊢
   generalize 2 ^ k = q at p1 p2
   rw [ze0 (by omega) (by omega)]; omega
  simp (maxSteps := 1000000) -implicitDefEqProofs only [↓reduceIte, ↓cond_true, ↓cond_false, sr1, sr2, kA, seval, d59, n59, zcz, h, ew, hp, e1, e2, hm]
structure StNum (s : MState) : Prop where
 r : ∀ x ∈ s.regs, 0 ≤ x ∧ x < 18446744073709551616
abbrev ya9q (m : MMach) (r v : Sv) (s : MState) : Heap := ⟨3, [some (.cells 27 (zad m)), some (.cells 32 (stC r v s)), some (.cells 3 ((za1 m).map zdt))]⟩
theorem yajf (m : MMach) (hB : Bd m) (r v : Sv) (s : MState) (hs : StOk r v s) (hn : StNum s) (hl : s.regs.length = (za1 m).length) : ∀ i, i ≤ (za1 m).length → lim (some [2, 3]) 0 (blk 0 (om Tryz.prog ⟨47, none⟩ 0 (.loop (lpb Tryz.f47 0)) ⟨⟨79, [(2, .ptr 0 0), (3, .ptr 1 0), (5, .sl 2 0 (za1 m).length 1), (6, .int .i64 i)]⟩, [], msrH m r v s⟩)) =
  bif zb9 (zry m s) i (za1 m).length then some (.normal, ⟨⟨79, [(2, .ptr 0 0), (3, .ptr 1 0)]⟩, [], msH m r v s⟩) else some (.ret, ⟨⟨79, [(4, .bool false)]⟩, [], ⟨0, []⟩⟩) := by
 have ht := zfd hB
 have hr := hB.r
 refine zb8 ?_ (fun i h ih => ?_) <;> rw [zae]
 ·simp (maxSteps := 1000000) -implicitDefEqProofs only [↓reduceIte, ↓cond_true, ↓cond_false, sr1, sr2, kA, seval, d47, zly, zlz, zga, n47, e47, zba, zai, zak]
 ·have hi2 : i < s.regs.length := by omega
  have hx := zl7 (f := zcc) (k := .i64) hs.r hi2
  have hm := yab4 (List.getElem_mem h)
  have eO : zry m s i = okB (m.regs[(za1 m)[i].toNat]'hm.2).width s.regs[i] := by
   unfold zry
   rw [zcq h, zcq hi2, zcf hm.2]
  have ho := zj3 (m.regs[(za1 m)[i].toNat]'hm.2).width s.regs[i] (hn.r _ (List.getElem_mem hi2)).2
  rw [zbr h, eO]
  cases hq : okB (m.regs[(za1 m)[i].toNat]'hm.2).width s.regs[i] with
  | true =>
   rw [hq] at ho
   simp (maxSteps := 1000000) -implicitDefEqProofs only [↓reduceIte, ↓cond_true, ↓cond_false, sr1, sr2, kA, seval, d47, zly, zlz, zga, n47, e47, dlt_t h, wi_nat (show i < 2 ^ 62 by omega), Go.Ab.ix_sl h, zkq h, ix_z zab hm.1 hm.2, zei, hx, zcc, ho, ih, zai, zak]
  | false =>
   rw [hq] at ho
   simp (maxSteps := 1000000) -implicitDefEqProofs only [↓reduceIte, ↓cond_true, ↓cond_false, sr1, sr2, kA, seval, d47, zly, zlz, zga, n47, e47, dlt_t h, Go.Ab.ix_sl h, zkq h, ix_z zab hm.1 hm.2, zei, hx, zcc, ho, zai, zak]
def atOk (m : MMach) (c : MCell) : Bool := decide (c.at_ ≤ zcb m.address)
theorem yajg (m : MMach) (r v : Sv) (s : MState) (hs : StOk r v s) : ∀ i, i ≤ s.mem.length → lim (some []) 0 (blk 2 (om Tryz.prog ⟨47, none⟩ 0 (.loop (lpb Tryz.f47 1)) ⟨⟨79, [(2, .ptr 0 0), (3, .ptr 1 0), (7, .int .i64 i)]⟩, [], msH m r v s⟩)) =
  bif (s.mem.drop i).all (atOk m) then some (.normal, ⟨⟨79, []⟩, [], ⟨0, []⟩⟩) else some (.ret, ⟨⟨79, [(4, .bool false)]⟩, [], ⟨0, []⟩⟩) := by
 have hl := hs.vl
 refine zb8 ?_ (fun i h ih => ?_) <;> rw [zae]
 ·simp (maxSteps := 1000000) -implicitDefEqProofs only [↓reduceIte, ↓cond_true, ↓cond_false, sr1, sr2, kA, seval, d47, zly, zlz, zga, n47, e47, List.drop_length]
 ·have hx := zl7 (f := za0) (k := .i64) hs.v h
  have hk := zj1 m.address
  have eO : decide (zcb m.address < s.mem[i].at_) = !atOk m s.mem[i] := by unfold atOk; rw [zbg, Bool.not_not]
  rw [List.drop_eq_getElem_cons h, List.all_cons]
  cases hq : atOk m s.mem[i] with
  | true => simp (maxSteps := 1000000) -implicitDefEqProofs only [↓reduceIte, ↓cond_true, ↓cond_false, sr1, sr2, kA, seval, d47, zly, zlz, zga, n47, e47, dlt_t h, wi_nat (show i < 2 ^ 62 by omega), hx, za0, hk, eO, hq, ih]
  | false => simp (maxSteps := 1000000) -implicitDefEqProofs only [↓reduceIte, ↓cond_true, ↓cond_false, sr1, sr2, kA, seval, d47, zly, zlz, zga, n47, e47, dlt_t h, hx, za0, hk, eO, hq]
def yab6 (m : MMach) (s : MState) : Bool := zp5 m s && (zb9 (zry m s) 0 (za1 m).length && s.mem.all (atOk m))
theorem yad1 (m : MMach) (hB : Bd m) (h : zb1 m = 0) (ha : inR m.address 1 64 = true) (r v : Sv) (s : MState) (hs : StOk r v s) (hn : StNum s) : zaq Tryz.prog (om Tryz.prog) 47 [zac m, stV r v s] ⟨0, []⟩ = some (.bool (yab6 m s), ⟨0, []⟩) := by
 have hT := zuu m hB h
 have hC := yach v s.mem hs.v hs.vl
 have hk := zj1 m.address
 simp only [zac, zad] at hT
 have n0 : decide (s.cycles < 0) = !decide (0 ≤ s.cycles) := by rw [zbg, Bool.not_not]
 have n1 : decide (1099511627776 < s.cycles) = !decide (s.cycles ≤ 1099511627776) := by rw [zbg, Bool.not_not]
 have n2 : decide (zcb m.address < s.pc) = !okB m.address s.pc := by unfold okB; rw [ha, Bool.true_and, zbg, Bool.not_not]
 unfold yab6 zp5
 rw [yaxc _ _ (by simp)]
 cases c1 : decide ((s.regs.length : Int) = ((za1 m).length : Int)) with
 | false => simp (maxSteps := 1000000) -implicitDefEqProofs only [↓reduceIte, ↓cond_true, ↓cond_false, sr1, sr2, kA, seval, d47, zly, zlz, zga, n47, e47, zac, zad, stV, hT, zai, zak, c1]
 | true =>
 cases c2 : zh8 s.mem with
 | false =>
  rw [c2] at hC
  simp (maxSteps := 1000000) -implicitDefEqProofs only [↓reduceIte, ↓cond_true, ↓cond_false, sr1, sr2, kA, seval, d47, zly, zlz, zga, n47, e47, zac, zad, stV, hT, zai, zak, c1, hC]
 | true =>
 rw [c2] at hC
 cases c3 : okB m.address s.pc with
 | false => simp (maxSteps := 1000000) -implicitDefEqProofs only [↓reduceIte, ↓cond_true, ↓cond_false, sr1, sr2, kA, seval, d47, zly, zlz, zga, n47, e47, zac, zad, stV, hT, zai, zak, c1, hC, hk, n2, c3]
 | true =>
 cases c4 : decide (0 ≤ s.cycles) with
 | false => simp (maxSteps := 1000000) -implicitDefEqProofs only [↓reduceIte, ↓cond_true, ↓cond_false, sr1, sr2, kA, seval, d47, zly, zlz, zga, n47, e47, zac, zad, stV, hT, zai, zak, c1, hC, hk, n2, c3, n0, c4]
 | true =>
 cases c5 : decide (s.cycles ≤ 1099511627776) with
 | false => simp (maxSteps := 1000000) -implicitDefEqProofs only [↓reduceIte, ↓cond_true, ↓cond_false, sr1, sr2, kA, seval, d47, zly, zlz, zga, n47, e47, zac, zad, stV, hT, zai, zak, c1, hC, hk, n2, c3, n0, c4, n1, c5]
 | true =>
 have hl : s.regs.length = (za1 m).length := by have := of_decide_eq_true c1; omega
 have L := yajf m hB r v s hs hn hl 0 (Nat.zero_le _)
 have L1 := yajg m r v s hs 0 (Nat.zero_le _)
 simp only [Int.natCast_zero, List.drop_zero] at L L1
 cases c6 : zb9 (zry m s) 0 (za1 m).length with
 | false =>
  rw [c6] at L
  simp (maxSteps := 1000000) -implicitDefEqProofs only [↓reduceIte, ↓cond_true, ↓cond_false, sr1, sr2, kA, seval, d47, zly, zlz, zga, n47, e47, zac, zad, stV, hT, zai, zak, c1, hC, hk, n2, c3, n0, c4, n1, c5, L]
 | true =>
 rw [c6] at L
 cases c7 : s.mem.all (atOk m) with
 | true =>
  rw [c7] at L1
  simp (maxSteps := 1000000) -implicitDefEqProofs only [↓reduceIte, ↓cond_true, ↓cond_false, sr1, sr2, kA, seval, d47, zly, zlz, zga, n47, e47, zac, zad, stV, hT, zai, zak, c1, hC, hk, n2, c3, n0, c4, n1, c5, L, L1]
 | false =>
  rw [c7] at L1
  simp (maxSteps := 1000000) -implicitDefEqProofs only [↓reduceIte, ↓cond_true, ↓cond_false, sr1, sr2, kA, seval, d47, zly, zlz, zga, n47, e47, zac, zad, stV, hT, zai, zak, c1, hC, hk, n2, c3, n0, c4, n1, c5, L, L1]
theorem yatm {l : List MCell} (h : zb9 (fun i => !zxl l i) 0 l.length = true) : ∀ {i : Nat} (hi : i < l.length), l[i].at_ ≤ yaar l := by
 have step : ∀ j (hj : j + 1 < l.length), l[j].at_ < l[j + 1].at_ := fun j hj => by
  have := zbe.1 h (j + 1) (Nat.zero_le _) hj
  simp only [zxl, List.getElem?_eq_getElem hj, List.getElem?_eq_getElem (show j < l.length by omega)] at this
  simp only [Bool.not_eq_true', Bool.or_eq_false_iff, decide_eq_false_iff_not] at this
  omega
 have up : ∀ d i (hi : i + d < l.length), l[i].at_ ≤ l[i + d].at_ := by
  intro d
  induction d with
  | zero => intro i hi; exact Int.le_refl _
  | succ d ih =>
   intro i hi
   have h1 := ih i (by omega)
   have h2 := step (i + d) (by omega)
   have e : i + (d + 1) = i + d + 1 := by omega
   simp only [e]
   omega
 intro i hi
 obtain ⟨j, hj⟩ : ∃ j, l.length = j + 1 := ⟨l.length - 1, by omega⟩
 rw [zld hj]
 have := up (j - i) i (by omega)
 have e : i + (j - i) = j := by omega
 simp only [e] at this
 exact this
theorem yano {m : MMach} (ha : inR m.address 1 64 = true) {s : MState} : yab6 m s = zjo m s := by
 unfold yab6 zjo
 cases hh : zp5 m s with
 | false => rfl
 | true =>
  congr 1
  congr 1
  unfold zp5 at hh
  simp only [Bool.and_eq_true] at hh
  have hc := hh.2.1
  unfold zh8 at hc
  rw [Bool.and_eq_true] at hc
  unfold yatu okB
  rw [ha, Bool.true_and, Bool.eq_iff_iff, List.all_eq_true, Bool.or_eq_true, decide_eq_true_iff, decide_eq_true_iff]
  constructor
  ·intro h
   by_cases q : (s.mem.length : Int) = 0
   ·exact .inl q
   ·obtain ⟨j, hj⟩ : ∃ j, s.mem.length = j + 1 := ⟨s.mem.length - 1, by omega⟩
    rw [zld hj]
    exact .inr (of_decide_eq_true (h _ (List.getElem_mem _)))
  ·rintro (h | h) c hc'
   ·obtain ⟨i, hi, _⟩ := List.getElem_of_mem hc'
    omega
   ·obtain ⟨i, hi, rfl⟩ := List.getElem_of_mem hc'
    have := yatm hc.2 hi
    exact decide_eq_true (by omega)
theorem yaau {m : MMach} (h : zb1 m = 0) : m.address = 16 ∨ m.address = 32 := by
 unfold zb1 at h
 cases hs : zk2 m with
 | false => rw [hs] at h; simp at h
 | true =>
  rw [hs] at h
  cases hg : goodB m with
  | false => rw [hg] at h; simp at h
  | true =>
   rw [zi1, Bool.and_eq_true] at hg
   have := hg.1
   unfold preB at this
   simp only [Bool.and_eq_true, Bool.or_eq_true, decide_eq_true_eq] at this
   exact this.1.2.2
theorem zu7 {m : MMach} (h : zb1 m = 0) : inR m.address 1 64 = true := by
 rcases yaau h with e | e <;> rw [e] <;> decide
def zpp (m : MMach) (s : MState) : Int := bif decide (zb1 m = 0) then (bif zjo m s then 0 else 8) else zb1 m
theorem zfk (m : MMach) (hm : MOk m) (r v : Sv) (s : MState) (hs : StOk r v s) : zaq Tryz.prog (om Tryz.prog) 16 [zac m, stV r v s] ⟨0, []⟩ = some (.int .i64 (zpp m s), ⟨0, []⟩) := by
 have hC := zj2 m hm
 simp only [zac, zad] at hC
 unfold zpp
 rw [yaww _ _ (by simp)]
 cases h : decide (zb1 m = 0) with
 | false => simp (maxSteps := 1000000) -implicitDefEqProofs only [↓reduceIte, ↓cond_true, ↓cond_false, sr1, sr2, kA, seval, d16, n16, zac, zad, stV, hC, h]
 | true =>
  have hV := yajh m hm (of_decide_eq_true h) r v s hs
  simp only [zac, zad, stV] at hV
  cases hv : zjo m s with
  | true =>
   rw [hv] at hV
   simp (maxSteps := 1000000) -implicitDefEqProofs only [↓reduceIte, ↓cond_true, ↓cond_false, sr1, sr2, kA, seval, d16, n16, zac, zad, stV, hC, h, hV]
  | false =>
   rw [hv] at hV
   simp (maxSteps := 1000000) -implicitDefEqProofs only [↓reduceIte, ↓cond_true, ↓cond_false, sr1, sr2, kA, seval, d16, n16, zac, zad, stV, hC, h, hV]
theorem zdm (m : MMach) (hm : NOk8 m) (r v : Sv) (s : MState) (hs : StOk r v s) (hn : StNum s) : zaq Tryz.prog (om Tryz.prog) 17 [zac m, stV r v s] ⟨0, []⟩ = some (.int .i64 (zpp m s), ⟨0, []⟩) := by
 have hC := zhw m hm
 rw [zyk m hm] at hC
 simp only [zac, zad] at hC
 unfold zpp
 rw [yawx _ _ (by simp)]
 cases h : decide (zb1 m = 0) with
 | false => simp (maxSteps := 1000000) -implicitDefEqProofs only [↓reduceIte, ↓cond_true, ↓cond_false, sr1, sr2, kA, seval, d17, n17, zac, zad, stV, hC, h]
 | true =>
  have h' := of_decide_eq_true h
  have hV := yad1 m hm.b h' (zu7 h') r v s hs hn
  rw [yano (zu7 h')] at hV
  simp only [zac, zad, stV] at hV
  cases hv : zjo m s with
  | true =>
   rw [hv] at hV
   simp (maxSteps := 1000000) -implicitDefEqProofs only [↓reduceIte, ↓cond_true, ↓cond_false, sr1, sr2, kA, seval, d17, n17, zac, zad, stV, hC, h, hV]
  | false =>
   rw [hv] at hV
   simp (maxSteps := 1000000) -implicitDefEqProofs only [↓reduceIte, ↓cond_true, ↓cond_false, sr1, sr2, kA, seval, d17, n17, zac, zad, stV, hC, h, hV]
end Go.Proofs.YtcfcphhamfhfcaaGreatDoor.v
